/- GfMatrices holds where what it reads is of bulk at most 1048576: gf and the reference make the same products, inverses, rows, or the same errors, of any matrices. -/
import Derived.Test.YtldndaimgfegnaaOpen
import Derived.Test.YtldndaimgfegnaaLawMakes
import Derived.Test.YtldndaimgfegnaaRefApply
import Derived.Test.YtldndaimgfegnaaRefInv
import Derived.Test.YtldndaimgfegnaaInvC
namespace Go.Proofs.Ytldndaimgfegnaa.gfMatrices
open Go.ChangeShapes Go.WideShapes Go.ChangeAt Go.RowKit
open Go.ChangeMaps (open_string shut_string)
open Go.Proofs.Ytldndaimgfegnaa.gfMakes (szOf szOf_le matOr_rd same_true)
set_option linter.unusedVariables false
set_option linter.unusedSimpArgs false

/-! ### Each pair of functions answers by the same words -/
def invErr (n : Nat) (L : Nat → Nat) (F : Mt) : Int := if invOk n L = true then (if (gjTo n F n).isSome then 0 else 17) else 1
def invSz (n : Nat) (L : Nat → Nat) (F : Mt) : Nat := if invOk n L = true ∧ (gjTo n F n).isSome = true then n else 0
def invF (n : Nat) (F : Mt) : Mt := ((gjTo n F n).getD (F, unitE)).2
def Told (f : FuncId) (args : Array Value) (w : World) (n m : Nat) (F : Mt) (x : Int) : Prop :=
  Calls Try.prog f args w fun e w' => ∃ (A : Option Addr) (c : Nat), e = .returned (.tuple #[.slice A n c, .int .i64 x]) ∧ Hid (RdM w' A n (fun _ => m) F) ∧ Hid (Below w.heap.size w w')
theorem rd_none (w : World) (m : Nat) (F : Mt) : RdM w none 0 (fun _ => m) F := ⟨fun _ => none, fun _ => 0, RdF.none_, fun i hi => absurd hi (Nat.not_lt_zero _)⟩
theorem told_or {f : FuncId} {args : Array Value} {w : World} {ok : Bool} {n m : Nat} {F : Mt} (h : Calls Try.prog f args w fun e w' => ∃ v, e = .returned (.tuple #[v, .int .i64 (errOf ok)]) ∧ MatOr ok w w' v n m F) : Told f args w (szOf ok n) m F (errOf ok) := by
  refine h.mono ?_
  rintro e w' ⟨v, rfl, hv⟩
  obtain ⟨A', c', rfl, h1, h2⟩ := matOr_rd hv
  exact ⟨A', c', rfl, Lib.hid h1, Lib.hid h2⟩
theorem told_inv {f : FuncId} {args : Array Value} {w : World} {n : Nat} {L : Nat → Nat} {F : Mt}
    (hno : invOk n L = false → Calls Try.prog f args w fun e w' => e = .returned (.tuple #[.slice none 0 0, .int .i64 1]) ∧ Below w.heap.size w w')
    (hyes : invOk n L = true → Calls Try.prog f args w fun e w' => ∃ v, (∃ A' O', gjTo n F n = some (A', O') ∧ e = .returned (.tuple #[v, .int .i64 0]) ∧ NewMat w w' v n n O') ∨ (gjTo n F n = none ∧ e = .returned (.tuple #[.slice none 0 0, .int .i64 17]) ∧ Below w.heap.size w w')) :
    Told f args w (invSz n L F) n (invF n F) (invErr n L F) := by
  unfold Told invErr invSz invF
  by_cases h : invOk n L = true
  · refine (hyes h).mono ?_
    rintro e w' ⟨v, ⟨A', O', hg, rfl, g, c, bs, rfl, _, hM, _, _, _, hb⟩ | ⟨hg, rfl, hb⟩⟩
    · rw [hg, if_pos h, if_pos ⟨h, rfl⟩]
      exact ⟨_, _, rfl, Lib.hid hM.rd, Lib.hid hb⟩
    · rw [hg, if_pos h, if_neg (fun x => by cases x.2)]
      exact ⟨none, 0, rfl, Lib.hid (rd_none _ _ _), Lib.hid hb⟩
  · have h' : invOk n L = false := by simpa using h
    refine (hno h').mono ?_
    rintro e w' ⟨rfl, hb⟩
    rw [if_neg h, if_neg (fun x => h x.1)]
    exact ⟨none, 0, rfl, Lib.hid (rd_none _ _ _), Lib.hid hb⟩
theorem inv_cases {n : Nat} {L : Nat → Nat} (h : invOk n L = false) : rightB n L = false ∨ (rightB n L = true ∧ n ≠ L 0) := by
  unfold invOk at h
  by_cases h1 : rightB n L = true
  · right
    rw [h1, Bool.true_and] at h
    exact ⟨h1, of_decide_eq_false h⟩
  · exact .inl (by simpa using h1)
theorem inv_true {n : Nat} {L : Nat → Nat} (h : invOk n L = true) : rightB n L = true ∧ n = L 0 := by
  unfold invOk at h
  rw [Bool.and_eq_true] at h
  exact ⟨h.1, of_decide_eq_true h.2⟩
theorem inverse2 (A : Option Addr) (n c : Nat) (L : Nat → Nat) (F : Mt) (w : World) (ha : RdM w A n L F) (hn : n ≤ 4611686018427387904) (hl : ∀ i, i < n → L i ≤ 4611686018427387904) : Told 30 #[.slice A n c] w (invSz n L F) n (invF n F) (invErr n L F) :=
  told_inv (fun h => inverse_no1 A n c L F w ha hn hl (inv_cases h)) (fun h => inverse_yes A n c L F w ha hn hl (inv_true h).1 (inv_true h).2)
theorem rinverse2 (A : Option Addr) (n c : Nat) (L : Nat → Nat) (F : Mt) (w : World) (ha : RdM w A n L F) (hn : n ≤ 4611686018427387904) (hl : ∀ i, i < n → L i ≤ 4611686018427387904) : Told 37 #[.slice A n c] w (invSz n L F) n (invF n F) (invErr n L F) :=
  told_inv (fun h => rinverse_no A n c L F w ha hn hl (inv_cases h)) (fun h => rinverse_yes A n c L F w ha hn hl (inv_true h).1 (inv_true h).2)

theorem app_cases {n vn : Nat} {L : Nat → Nat} (h : applyOk n vn L = false) : rightB n L = false ∨ (rightB n L = true ∧ vn ≠ L 0) := by
  unfold applyOk at h
  by_cases h1 : rightB n L = true
  · right
    rw [h1, Bool.true_and] at h
    exact ⟨h1, of_decide_eq_false h⟩
  · exact .inl (by simpa using h1)
theorem app_true {n vn : Nat} {L : Nat → Nat} (h : applyOk n vn L = true) : rightB n L = true ∧ vn = L 0 := by
  unfold applyOk at h
  rw [Bool.and_eq_true] at h
  exact ⟨h.1, of_decide_eq_true h.2⟩
def TellB (f : FuncId) (args : Array Value) (w : World) (n : Nat) (g : Nat → Gf.E) (x : Int) : Prop :=
  Calls Try.prog f args w fun e w' => ∃ (A : Option Addr) (c : Nat), e = .returned (.tuple #[.slice A n c, .int .i64 x]) ∧ Hid (RdB w' A n g) ∧ Hid (Below w.heap.size w w')
theorem tell_app {f : FuncId} {args : Array Value} {w : World} {ok : Bool} {n : Nat} {g : Nat → Gf.E} (hno : ok = false → Calls Try.prog f args w fun e w' => e = .returned (.tuple #[.slice none 0 0, .int .i64 1]) ∧ Below w.heap.size w w')
    (hyes : ok = true → Calls Try.prog f args w fun e w' => ∃ b cap, e = .returned (.tuple #[.slice (some ⟨b, 0, none⟩) n cap, .int .i64 0]) ∧ RowAt w' b 5 n (fun i => vb (g i)) ∧ Below w.heap.size w w') : TellB f args w (szOf ok n) g (errOf ok) := by
  unfold TellB
  cases ok with
  | true =>
    refine (hyes rfl).mono ?_
    rintro e w' ⟨b, cap, rfl, hr, hb⟩
    exact ⟨_, _, rfl, Lib.hid hr.rd, Lib.hid hb⟩
  | false =>
    refine (hno rfl).mono ?_
    rintro e w' ⟨rfl, hb⟩
    exact ⟨none, 0, rfl, Lib.hid RdF.none_, Lib.hid hb⟩
theorem apply2 (A V : Option Addr) (n c vn vc : Nat) (L : Nat → Nat) (F : Mt) (x : Nat → Gf.E) (w : World) (ha : RdM w A n L F) (hv : RdB w V vn x) (hn : n ≤ 4611686018427387904) (hl : ∀ i, i < n → L i ≤ 4611686018427387904) (hvn : vn ≤ 4611686018427387904) :
    TellB 34 #[.slice A n c, .slice V vn vc] w (szOf (applyOk n vn L) n) (applyF F x vn) (errOf (applyOk n vn L)) :=
  tell_app (fun h => apply_no A V n c vn vc L F w ha hn hl hvn (app_cases h)) (fun h => (apply_yes A V n c vn vc L F x w ha hv hn hl (app_true h).1 (app_true h).2).mono fun e w' ⟨b, cap, h1, _, h2, h3⟩ => ⟨b, cap, h1, h2, h3⟩)
theorem rapply2 (A V : Option Addr) (n c vn vc : Nat) (L : Nat → Nat) (F : Mt) (x : Nat → Gf.E) (w : World) (ha : RdM w A n L F) (hv : RdB w V vn x) (hn : n ≤ 4611686018427387904) (hl : ∀ i, i < n → L i ≤ 4611686018427387904) (hvn : vn ≤ 4611686018427387904) :
    TellB 36 #[.slice A n c, .slice V vn vc] w (szOf (applyOk n vn L) n) (applyF F x vn) (errOf (applyOk n vn L)) :=
  tell_app (fun h => rapply_no A V n c vn vc L F w ha hn hl (app_cases h)) (fun h => rapply_yes A V n c vn vc L F x w ha hv hn hl (app_true h).1 (app_true h).2)

theorem Told.call {f : FuncId} {args : Array Value} {w : World} {n m : Nat} {F : Mt} {x : Int} {Q : Ending → World → Prop} (h : Told f args w n m F x) (hq : ∀ e w', (∃ (A : Option Addr) (c : Nat), e = .returned (.tuple #[.slice A n c, .int .i64 x]) ∧ Hid (RdM w' A n (fun _ => m) F) ∧ Hid (Below w.heap.size w w')) → Q e w') : Calls Try.prog f args w Q := Calls.mono h hq
theorem TellB.call {f : FuncId} {args : Array Value} {w : World} {n : Nat} {g : Nat → Gf.E} {x : Int} {Q : Ending → World → Prop} (h : TellB f args w n g x) (hq : ∀ e w', (∃ (A : Option Addr) (c : Nat), e = .returned (.tuple #[.slice A n c, .int .i64 x]) ∧ Hid (RdB w' A n g) ∧ Hid (Below w.heap.size w w')) → Q e w') : Calls Try.prog f args w Q := Calls.mono h hq
theorem bel2 {w w1 w2 : World} (h : Hid (Below w.heap.size w w1)) (k : Hid (Below w1.heap.size w1 w2)) : Hid (Below w.heap.size w w2) := Lib.hid (below_then h.out h.out.size k.out)
theorem bel2d {w w1 w2 : World} (h : Hid (Below w.heap.size w w1)) (k : Drew w1 w2) : Hid (Below w.heap.size w w2) := Lib.hid (below_then h.out h.out.size k.below)
theorem times_sz (n m : Nat) (L M : Nat → Nat) : szOf (timesOk n m L M) n ≤ 256 := szOf_le (fun h => by unfold timesOk at h; rw [Bool.and_eq_true] at h; have := rightB_pos h.1; omega)
theorem rows_sz (n kn : Nat) (L : Nat → Nat) (f : Nat → Int) : szOf (rowsOk n kn L f) kn ≤ 256 := szOf_le (fun h => by unfold rowsOk at h; rw [Bool.and_eq_true, Bool.and_eq_true] at h; have := of_decide_eq_true h.2.1; omega)
theorem inv_sz (n : Nat) (L : Nat → Nat) (F : Mt) : invSz n L F ≤ 256 := by
  unfold invSz
  split
  · rename_i h; have := rightB_pos (inv_true h.1).1; omega
  · omega

set_option maxRecDepth 100000 in
set_option maxHeartbeats 8000000 in
theorem walk_in (A B V N : Option Addr) (n c m d vn vc kn kc : Nat) (L M : Nat → Nat) (F G : Mt) (x : Nat → Gf.E) (f : Nat → Int) (w : World) (ha : RdM w A n L F) (hb : RdM w B m M G) (hv : RdB w V vn x) (hN : RdF w N kn (fun j => .int .i64 (f j)))
    (hf : fewB n L = true) (hf2 : fewB m M = true) (h3 : vn ≤ 2000) (h4 : kn ≤ 300) :
    Calls Try.prog 10 #[.slice A n c, .slice B m d, .slice V vn vc, .slice N kn kc] w fun e w' => e = .returned (.bool true) ∧ Below w.heap.size w w' := by
  have g1 := of_decide_eq_true hf
  have g2 := of_decide_eq_true hf2
  have hn : n ≤ 2000 := by omega
  have hm : m ≤ 2000 := by omega
  have s1 : n + sumL L n ≤ 1048576 := by omega
  have s2 : m + sumL M m ≤ 1048576 := by omega
  have HL : Hid (∀ i, i < n → L i ≤ 4611686018427387904) := Lib.hid (fun i hi => by have := sumL_le L hi; omega)
  have HL2 : Hid (∀ i, i < m → M i ≤ 4611686018427387904) := Lib.hid (fun i hi => by have := sumL_le M hi; omega)
  have HA := Lib.hid ha
  have HB := Lib.hid hb
  have HV := Lib.hid hv
  have HN := Lib.hid hN
  have HF := Lib.hid hf
  have HF2 := Lib.hid hf2
  have h3' : (vn : Int) ≤ 2000 := by omega
  have h4' : (kn : Int) ≤ 300 := by omega
  clear ha hb hv hN hf hf2 g1 g2
  go_enter Try.func10, Try.ntmps10
  go_wp2_with (first | (go_at_call 11; refine (known_c _).mono ?_; rintro e w1 ⟨rfl, hb⟩; replace hb := Lib.hid hb) | (go_at_call 21; with_reducible refine (few_c A n c L F _ (HA.out.below hb.out) s1).mono ?_; rintro e w2 ⟨rfl, rfl⟩; rw [HF.out]) | (go_at_call 21; with_reducible refine (few_c B m d M G _ (HB.out.below hb.out) s2).mono ?_; rintro e w2 ⟨rfl, rfl⟩; rw [HF2.out]))
  refine (show Told _ _ _ _ _ _ _ from told_or (times_c A B n c m d L M F G w1 (HA.out.below hb.out) (HB.out.below hb.out) (by omega) HL.out (by omega) HL2.out)).call ?_
  rintro e w2 ⟨A1, c1, rfl, m1, b1⟩
  replace hb := bel2 hb b1
  go_wp2_with (fail)
  refine (show Told _ _ _ _ _ _ _ from told_or (rtimes_c A B n c m d L M F G w2 (HA.out.below hb.out) (HB.out.below hb.out) (by omega) HL.out (by omega) HL2.out)).call ?_
  rintro e w3 ⟨A2, c2, rfl, m2, b2⟩
  replace hb := bel2 hb b2
  replace m1 := Lib.hid (m1.out.below b2.out)
  have HZ := Lib.hid (times_sz n m L M)
  go_wp2_with (fail)
  refine (same_true m1.out m2.out HZ.out).mono ?_
  rintro e w4 ⟨rfl, hd⟩
  replace hb := bel2d hb hd
  clear m1 m2 HZ b1 b2 hd
  go_wp2_with (fail)
  refine (apply2 A V n c vn vc L F x w4 (HA.out.below hb.out) (RdF.below HV.out hb.out) (by omega) HL.out (by omega)).call ?_
  rintro e w5 ⟨A3, c3, rfl, m3, b3⟩
  replace hb := bel2 hb b3
  go_wp2_with (fail)
  refine (rapply2 A V n c vn vc L F x w5 (HA.out.below hb.out) (RdF.below HV.out hb.out) (by omega) HL.out (by omega)).call ?_
  rintro e w6 ⟨A4, c4, rfl, m4, b4⟩
  replace hb := bel2 hb b4
  have hcv : (convert 56 9 (.slice A3 (szOf (applyOk n vn L) n) c3)).run Try.prog w6 = .ok (.string (strE (szOf (applyOk n vn L) n) (applyF F x vn))) w6 := run_conv_bytes Try.underlying56 Try.underlying5 Try.underlying9 (RdF.below m3.out b4.out)
  have hcv2 : (convert 56 9 (.slice A4 (szOf (applyOk n vn L) n) c4)).run Try.prog w6 = .ok (.string (strE (szOf (applyOk n vn L) n) (applyF F x vn))) w6 := run_conv_bytes Try.underlying56 Try.underlying5 Try.underlying9 m4.out
  clear m3 m4 b3 b4
  go_wp2_with (fail)
  refine (inverse2 A n c L F w6 (HA.out.below hb.out) (by omega) HL.out).call ?_
  rintro e w7 ⟨A5, c5, rfl, m5, b5⟩
  replace hb := bel2 hb b5
  clear hcv hcv2
  go_wp2_with (fail)
  refine (rinverse2 A n c L F w7 (HA.out.below hb.out) (by omega) HL.out).call ?_
  rintro e w8 ⟨A6, c6, rfl, m6, b6⟩
  replace hb := bel2 hb b6
  replace m5 := Lib.hid (m5.out.below b6.out)
  have HZ := Lib.hid (inv_sz n L F)
  go_wp2_with (fail)
  refine (same_true m5.out m6.out HZ.out).mono ?_
  rintro e w9 ⟨rfl, hd⟩
  replace hb := bel2d hb hd
  clear m5 m6 HZ b5 b6 hd
  go_wp2_with (fail)
  refine (show Told _ _ _ _ _ _ _ from told_or (rows_c A N n c kn kc L F f w9 (HA.out.below hb.out) (RdF.below HN.out hb.out) (by omega) HL.out (by omega))).call ?_
  rintro e w10 ⟨A7, c7, rfl, m7, b7⟩
  replace hb := bel2 hb b7
  go_wp2_with (fail)
  refine (show Told _ _ _ _ _ _ _ from told_or (rrows_c A N n c kn kc L F f w10 (HA.out.below hb.out) (RdF.below HN.out hb.out) (by omega) HL.out (by omega))).call ?_
  rintro e w11 ⟨A8, c8, rfl, m8, b8⟩
  replace hb := bel2 hb b8
  replace m7 := Lib.hid (m7.out.below b8.out)
  have HZ := Lib.hid (rows_sz n kn L f)
  go_wp2_with (fail)
  refine (same_true m7.out m8.out HZ.out).mono ?_
  rintro e w12 ⟨rfl, hd⟩
  replace hb := bel2d hb hd
  clear m7 m8 HZ b7 b8 hd
  go_wp2_with (fail)
  go_ret
  exact ⟨rfl, hb.out⟩

set_option maxRecDepth 100000 in
set_option maxHeartbeats 8000000 in
theorem walk_out (A B V N : Option Addr) (n c m d vn vc kn kc : Nat) (L M : Nat → Nat) (F G : Mt) (w : World) (ha : RdM w A n L F) (hb : RdM w B m M G) (s1 : n + sumL L n ≤ 1048576) (s2 : m + sumL M m ≤ 1048576)
    (h : fewB n L = false ∨ (fewB n L = true ∧ fewB m M = false) ∨ (fewB n L = true ∧ fewB m M = true ∧ 2000 < vn) ∨ (fewB n L = true ∧ fewB m M = true ∧ vn ≤ 2000 ∧ 300 < kn)) :
    Calls Try.prog 10 #[.slice A n c, .slice B m d, .slice V vn vc, .slice N kn kc] w fun e w' => e = .returned (.bool true) ∧ Below w.heap.size w w' := by
  have HA := Lib.hid ha
  have HB := Lib.hid hb
  clear ha hb
  rcases h with h | ⟨h, h2⟩ | ⟨h, h2, h3⟩ | ⟨h, h2, h3, h4⟩
  · have HF := Lib.hid h
    clear h
    go_enter Try.func10, Try.ntmps10
    go_wp2_with (first | (go_at_call 11; refine (known_c _).mono ?_; rintro e w1 ⟨rfl, hb⟩; replace hb := Lib.hid hb) | (go_at_call 21; with_reducible refine (few_c A n c L F _ (HA.out.below hb.out) s1).mono ?_; rintro e w2 ⟨rfl, rfl⟩; rw [HF.out]))
    go_ret
    exact ⟨rfl, hb.out⟩
  · have HF := Lib.hid h
    have HF2 := Lib.hid h2
    clear h h2
    go_enter Try.func10, Try.ntmps10
    go_wp2_with (first | (go_at_call 11; refine (known_c _).mono ?_; rintro e w1 ⟨rfl, hb⟩; replace hb := Lib.hid hb) | (go_at_call 21; with_reducible refine (few_c A n c L F _ (HA.out.below hb.out) s1).mono ?_; rintro e w2 ⟨rfl, rfl⟩; rw [HF.out]) | (go_at_call 21; with_reducible refine (few_c B m d M G _ (HB.out.below hb.out) s2).mono ?_; rintro e w2 ⟨rfl, rfl⟩; rw [HF2.out]))
    go_ret
    exact ⟨rfl, hb.out⟩
  · have HF := Lib.hid h
    have HF2 := Lib.hid h2
    have h3' : (2000 : Int) < (vn : Int) := by omega
    clear h h2
    go_enter Try.func10, Try.ntmps10
    go_wp2_with (first | (go_at_call 11; refine (known_c _).mono ?_; rintro e w1 ⟨rfl, hb⟩; replace hb := Lib.hid hb) | (go_at_call 21; with_reducible refine (few_c A n c L F _ (HA.out.below hb.out) s1).mono ?_; rintro e w2 ⟨rfl, rfl⟩; rw [HF.out]) | (go_at_call 21; with_reducible refine (few_c B m d M G _ (HB.out.below hb.out) s2).mono ?_; rintro e w2 ⟨rfl, rfl⟩; rw [HF2.out]))
    go_ret
    exact ⟨rfl, hb.out⟩
  · have HF := Lib.hid h
    have HF2 := Lib.hid h2
    have h3' : (vn : Int) ≤ 2000 := by omega
    have h4' : (300 : Int) < (kn : Int) := by omega
    clear h h2
    go_enter Try.func10, Try.ntmps10
    go_wp2_with (first | (go_at_call 11; refine (known_c _).mono ?_; rintro e w1 ⟨rfl, hb⟩; replace hb := Lib.hid hb) | (go_at_call 21; with_reducible refine (few_c A n c L F _ (HA.out.below hb.out) s1).mono ?_; rintro e w2 ⟨rfl, rfl⟩; rw [HF.out]) | (go_at_call 21; with_reducible refine (few_c B m d M G _ (HB.out.below hb.out) s2).mono ?_; rintro e w2 ⟨rfl, rfl⟩; rw [HF2.out]))
    go_ret
    exact ⟨rfl, hb.out⟩

theorem walk (a0 : Option Addr) (len0 cap0 : Nat) (a1 : Option Addr) (len1 cap1 : Nat) (a2 : Option Addr) (len2 cap2 : Nat) (a3 : Option Addr) (len3 cap3 : Nat) (w : World) (y0 : len0 ≤ 1048576) (w0 : IsMat w a0 len0 cap0) (y1 : len1 ≤ 1048576) (w1 : IsMat w a1 len1 cap1) (y2 : len2 ≤ 1048576) (w2 : IsBytes w a2 len2 cap2) (y3 : len3 ≤ 1048576) (w3 : IsInts w a3 len3 cap3) :
    Calls Try.prog 10 #[.slice a0 len0 cap0, .slice a1 len1 cap1, .slice a2 len2 cap2, .slice a3 len3 cap3] w fun e w' => e = .returned (.bool true) ∧ Below w.heap.size w w' := by
  obtain ⟨L, F, h1, s1, _⟩ := w0
  obtain ⟨M, G, h2, s2, _⟩ := w1
  obtain ⟨x, h3, _⟩ := w2
  obtain ⟨f, h4, _⟩ := w3
  by_cases hf : fewB len0 L = true
  · by_cases hf2 : fewB len1 M = true
    · by_cases hv : len2 ≤ 2000
      · by_cases hk : len3 ≤ 300
        · exact walk_in a0 a1 a2 a3 len0 cap0 len1 cap1 len2 cap2 len3 cap3 L M F G x f w h1 h2 h3 h4 hf hf2 hv hk
        · exact walk_out a0 a1 a2 a3 len0 cap0 len1 cap1 len2 cap2 len3 cap3 L M F G w h1 h2 s1 s2 (.inr (.inr (.inr ⟨hf, hf2, hv, by omega⟩)))
      · exact walk_out a0 a1 a2 a3 len0 cap0 len1 cap1 len2 cap2 len3 cap3 L M F G w h1 h2 s1 s2 (.inr (.inr (.inl ⟨hf, hf2, by omega⟩)))
    · exact walk_out a0 a1 a2 a3 len0 cap0 len1 cap1 len2 cap2 len3 cap3 L M F G w h1 h2 s1 s2 (.inr (.inl ⟨hf, by simpa using hf2⟩))
  · exact walk_out a0 a1 a2 a3 len0 cap0 len1 cap1 len2 cap2 len3 cap3 L M F G w h1 h2 s1 s2 (.inl (by simpa using hf))

theorem contract (H : Type) (enc : TypeId × Value → H) (W : World) (base : Nat) (args : Array Value) (ds gs : List (DataW H)) (before : List MemPlace)
    (hval : ∀ (j : Nat) t v, Try.f10.params[j]? = some t → args[j]? = some v → Value.okWide Try.prog W .any base t v)
    (hW : DataW.Whole enc Try.prog Try.f10.params.toList Rows.gfMatricesSpec.vars false W args.toList ds gs before) (hk : Rows.uptoSmall H (ds ++ gs) = true) :
    Calls Try.prog 10 args W fun e W' => ∃ v, e = .returned v ∧ Rows.gfMatricesSpec.post enc Try.prog Try.f10 false true false false W args v W' := by
  have hW' := hW
  obtain ⟨p, q, hA0, hV, rfl, hfz, hnd⟩ := hW
  have hA : DataW.TrodAll enc Try.prog W 0 (fun _ => true) true Try.f10.params.toList args.toList ds p := hA0
  rw [Try.params10] at hA hval
  obtain ⟨v0, vs0, d0, ds0, p0, q0, hargs, rfl, rfl, h0, r0⟩ := trodAll_cons hA
  obtain ⟨v1, vs1, d1, ds1, p1, q1, rfl, rfl, rfl, h1, r1⟩ := trodAll_cons r0
  obtain ⟨v2, vs2, d2, ds2, p2, q2, rfl, rfl, rfl, h2, r2⟩ := trodAll_cons r1
  obtain ⟨v3, vs3, d3, ds3, p3, q3, rfl, rfl, rfl, h3, r3⟩ := trodAll_cons r2
  obtain ⟨rfl, rfl, rfl⟩ := trodAll_nil r3
  obtain rfl : args = #[v0, v1, v2, v3] := by cases args; simp_all
  obtain ⟨rfl, rfl⟩ := trodVars_none hV
  obtain ⟨a0, len0, cap0, rfl⟩ := okWide_slice Try.underlying38 (hval 0 38 v0 rfl rfl)
  have k0 := h0
  have lt0 : ∀ x ∈ p0, x.block < W.heap.size := by obtain ⟨m, hm⟩ := k0; exact DataW.trod_lt m _ _ _ hm
  obtain ⟨y0, w0⟩ := mat_up hk (by simp) h0
  obtain ⟨a1, len1, cap1, rfl⟩ := okWide_slice Try.underlying38 (hval 1 38 v1 rfl rfl)
  have k1 := h1
  have lt1 : ∀ x ∈ p1, x.block < W.heap.size := by obtain ⟨m, hm⟩ := k1; exact DataW.trod_lt m _ _ _ hm
  obtain ⟨y1, w1⟩ := mat_up hk (by simp) h1
  obtain ⟨a2, len2, cap2, rfl⟩ := okWide_slice Try.underlying56 (hval 2 56 v2 rfl rfl)
  have k2 := h2
  have lt2 : ∀ x ∈ p2, x.block < W.heap.size := by obtain ⟨m, hm⟩ := k2; exact DataW.trod_lt m _ _ _ hm
  obtain ⟨y2, w2⟩ := bytes_up hk (by simp) h2
  obtain ⟨a3, len3, cap3, rfl⟩ := okWide_slice Try.underlying50 (hval 3 50 v3 rfl rfl)
  have k3 := h3
  have lt3 : ∀ x ∈ p3, x.block < W.heap.size := by obtain ⟨m, hm⟩ := k3; exact DataW.trod_lt m _ _ _ hm
  obtain ⟨y3, w3⟩ := ints_up hk (by simp) h3
  clear hA0 hk
  refine (walk a0 len0 cap0 a1 len1 cap1 a2 len2 cap2 a3 len3 cap3 W y0 w0 y1 w1 y2 w2 y3 w3).mono fun e W' ⟨he, bel⟩ => ?_
  subst he
  exact ⟨_, rfl, _, _, _, [], _, [], hW', trodAll_mk1 (shut_bool Try.underlying4 _), (trodAll_cons_mk (Below.trod laidOut (by kernel_rfl) (of_decide_eq_true (by kernel_rfl)) k0 bel lt0) (trodAll_cons_mk (Below.trod laidOut (by kernel_rfl) (of_decide_eq_true (by kernel_rfl)) k1 bel lt1) (trodAll_cons_mk (Below.trod laidOut (by kernel_rfl) (of_decide_eq_true (by kernel_rfl)) k2 bel lt2) (trodAll_cons_mk (Below.trod laidOut (by kernel_rfl) (of_decide_eq_true (by kernel_rfl)) k3 bel lt3) trodAll_mk0)))), rfl, bel.frame _, fun h => by cases h⟩
set_option maxRecDepth 100000 in
theorem lifted (os : Os) (started : os.Started) (H : Type) (enc : TypeId × Value → H) (F : Stop.Interp) :
    ReturnsInHanded {} Try.checked os 10 .any ((Rows.OpenSpec.upto Rows.gfMatricesSpec).pre6 enc Try.prog Try.f10 Rows.gfMatricesUptoRow.domain false) (((Rows.OpenSpec.upto Rows.gfMatricesSpec).at F).post enc Try.prog Try.f10 false true false false) := by
  refine returnsInHanded_of_cond (C := Try.checked) (s := Rows.OpenSpec.upto Rows.gfMatricesSpec) (k := Rows.uptoSmall) rfl own started (by kernel_rfl) Try.func10
    (OpenSpec.witness (enc := enc) (C := Try.checked) (s := Rows.OpenSpec.upto Rows.gfMatricesSpec) (k := Rows.uptoSmall) rfl false ⟨#[], #[.slice none 0 0, .slice none 0 0, .slice none 0 0, .slice none 0 0], []⟩ 8 (by kernel_rfl) (by kernel_rfl) (by kernel_rfl)
      (x := ([.nil, .nil, .nil, .nil], [], [])) (by kernel_rfl) rfl (by kernel_rfl)) ?_
  intro W base args ds gs before hval hW _ hk _
  exact contract H enc W base args ds gs before hval hW hk
theorem over : Rows.gfMatricesUptoRow.holds Try.pinned (Rows.OpenSpec.upto Rows.gfMatricesSpec) :=
  OpenClaim.holds_of_cond 10 Try.f10 rfl rfl rfl rfl rfl rfl rfl ⟨rfl, rfl, rfl, rfl, rfl⟩ rfl rfl rfl rfl rfl (by kernel_rfl) Try.func10 (by kernel_rfl)
    (of_decide_eq_true (by kernel_rfl)) (by unfold Func.isWrapper; first | (rw [if_pos (by decide +kernel)]; kernel_rfl) | (rw [if_neg (by decide +kernel)]; exact ⟨rfl, rfl⟩))
    (fun os started H enc _ F => lifted os started H enc F)
theorem proved : Rows.GfMatricesUptoSaid := over
#print axioms proved
end Go.Proofs.Ytldndaimgfegnaa.gfMatrices
namespace Go.Proofs.Ytldndaimgfegnaa
/-- The row of the second form, under a short name, for the claim. -/
theorem gfMatrices_upto : Rows.GfMatricesUptoSaid := gfMatrices.proved
end Go.Proofs.Ytldndaimgfegnaa
