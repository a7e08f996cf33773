/- What rs and the document tell, in one form each; few. -/
import Derived.Test.YtccfnhocjiehnaaDocRep
import Derived.Test.YtccfnhocjiehnaaRsMend
import Derived.Test.YtccfnhocjiehnaaDecode
import Derived.Test.YtccfnhocjiehnaaCheckC
import Derived.Test.YtccfnhocjiehnaaOpen
namespace Go.Proofs.Ytccfnhocjiehnaa
open Go.RowKit
set_option linter.unusedVariables false
set_option linter.unusedSimpArgs false

theorem doc_whole {L : Nat → Nat} {G D D' : Nat → Nat → Gf.E} {k s : Nat} (hks : k ≤ s) (h : WholeD L G k s D) (h' : DocD L G k s D') {i : Nat} (hi : i < k) (x : Nat) : D i x = D' i x := by
  obtain ⟨A', O', hg, rfl⟩ := h'
  rcases h with ⟨hL, rfl⟩ | ⟨A2, O2, hg2, rfl⟩
  · have h1 := undo_rows hg D hi x
    rw [← h1]
    show sumE k (fun a => Gf.mul (O' i a) (timesF (rowsF (unitCau k) fun j => (rowN L k s j : Int)) D k a x)) = sumE k (fun a => Gf.mul (O' i a) (D (rowN L k s a) x))
    refine sumE_congr fun a ha => ?_
    have hr := rowN_all hL hks ha
    have e : timesF (rowsF (unitCau k) fun j => (rowN L k s j : Int)) D k a x = D a x := by
      show sumE k (fun j => Gf.mul (unitCau k ((rowN L k s a : Nat) : Int).toNat j) (D j x)) = D a x
      rw [Int.toNat_natCast, hr, sumE_one ha (fun j hj hne => by rw [unitCau_lo ha]; unfold unitE; rw [if_neg (fun e => hne e.symm), Gf.zero_mul]), unitCau_lo ha]
      unfold unitE
      rw [if_pos rfl, Gf.one_mul]
    rw [e, hr]
  · rw [hg] at hg2
    injection hg2 with hg2
    injection hg2 with _ hg2
    rw [hg2]
theorem rep_same {L : Nat → Nat} {G D D' : Nat → Nat → Gf.E} {k s : Nat} (hks : k ≤ s) (h : WholeD L G k s D) (h' : DocD L G k s D') (i x : Nat) : repF L G D k i x = repF L G D' k i x := by
  unfold repF
  by_cases hl : 0 < L i
  · rw [if_pos hl, if_pos hl]
  · rw [if_neg hl, if_neg hl]
    by_cases hk : i < k
    · rw [if_pos hk, if_pos hk]; exact doc_whole hks h h' hk x
    · rw [if_neg hk, if_neg hk]
      exact sumE_congr fun a ha => by rw [doc_whole hks h h' ha x]
theorem con_same {L : Nat → Nat} {G D D' : Nat → Nat → Gf.E} {k s q z : Nat} (hks : k ≤ s) (h : WholeD L G k s D) (h' : DocD L G k s D') (hz : z ≤ k * q) {t : Nat} (ht : t < z) : conF q D t = conF q D' t := by
  unfold conF
  have hq : 0 < q := by
    rcases Nat.eq_zero_or_pos q with h0 | h0
    · rw [h0, Nat.mul_zero] at hz; omega
    · exact h0
  exact doc_whole hks h h' (by rw [Nat.div_lt_iff_lt_mul hq]; omega) _
theorem rows_pres {L : Nat → Nat} {k s : Nat} : (rowsTo L k s).length = min k (presTo L s).length := by unfold rowsTo; rw [List.length_take]

set_option maxRecDepth 100000 in
set_option maxHeartbeats 4000000 in
/-- Decode that is asked for too many bytes. -/
theorem decode_bad (b k m s : Nat) (A : Option Addr) (c : Nat) (z : Int) (L : Nat → Nat) (G : Nat → Nat → Gf.E) (w : World) (hc : CodeR w b k m) (hk : 1 ≤ k) (hkm : k + m ≤ 255) (ha : RdM w A s L G) (hs : s ≤ 1048576) (hl : ∀ i, i < s → L i ≤ 1048576) (hz : -9223372036854775808 ≤ z ∧ z ≤ 9223372036854775807) (hzm : alikeB s (k + m) L = true → z < 0 ∨ ((k * maxL L s : Nat) : Int) < z) :
    Calls Try.prog 14 #[.pointer (some ⟨b, 0, none⟩), .int .i64 z, .slice A s c] w fun e w' => e = .returned (.tuple #[.slice none 0 0, .int .i64 1]) ∧ Below w.heap.size w w' := by
  have hmf := makeFunc_run
  have hb := box2 w (.slice none 0 0) (.int .i64 0) 22 25
  have hT := Two.start w (.slice none 0 0) (.int .i64 0) 22 25
  have HT := Lib.hid hT
  obtain ⟨c1, c2, _⟩ := hc.below hb
  obtain ⟨Ar, Cr, hr, _⟩ := ha.below hb
  have HAL := Lib.hid (fun n => alike_c A s c ((k : Int) + m) L Ar Cr _ (hr.drewN n) (by omega) (fun i hi => by have := hl i hi; omega) (by omega))
  rw [show ((k : Int) + m).toNat = k + m by omega] at HAL
  have e1 : IntKind.i64.wrap ((k : Int) + (m : Int)) = (k : Int) + (m : Int) := by rw [IntKind.wrap_i64]; omega
  obtain ⟨M, hM⟩ : ∃ M, M = maxL L s := ⟨_, rfl⟩
  obtain ⟨P, hP⟩ : ∃ P, P = k * M := ⟨_, rfl⟩
  rw [← hM] at HAL hzm
  rw [← hP] at hzm
  have hmul : (k : Int) * (M : Int) = (P : Int) := by rw [hP, Int.natCast_mul]
  have HZ := Lib.hid hzm
  obtain ⟨hz1, hz2⟩ := hz
  have hMB : M ≤ 1048576 := by
    rw [hM]
    rcases maxL_is L s with h0 | ⟨j, hj, he⟩
    · omega
    · have := hl j hj; omega
  have hP2 : P ≤ 267386880 := by
    rw [hP]
    have h1 : k * M ≤ 255 * M := Nat.mul_le_mul_right _ (by omega)
    omega
  clear hc ha hb hr hl hT hzm hM hP
  go_enter_defers Try.func14, Try.ntmps14
  go_wp2_with (fail)
  generalize (w.alloc (.cells #[.slice none 0 0] 22)).alloc (.cells #[.int .i64 0] 25) = W at *
  refine wp_region_still_tail 10 (by kernel_rfl) (by kernel_rfl) ?_
  simp only [List.take_succ_cons, List.take_zero, List.drop_succ_cons, List.drop_zero]
  repeat (first | still_step)
  refine wpStill_nil ?_
  change wpList _ _ _ _ _ W.drew
  go_wp2_with (fail)
  refine (HAL.out 1).mono ?_
  rintro e w' ⟨rfl, ⟨hal, rfl⟩ | ⟨h, rfl⟩⟩
  · clear e1
    by_cases z0 : z < 0
    · clear hal
      go_wp2_with (fail)
      refine (give_c 1 _).mono ?_
      rintro e w'' ⟨rfl, rfl⟩
      go_wp2
      refine two_up (fun _ _ => rfl) (HT.out.over (below_drewN (Below.refl _ _) 1)) (fun W h1 h2 => zero3_c _ _ W h1 h2) (fun W h1 h2 => by simp [results, Try.results14, go_sem, h1, h2]) (fun W hW => ⟨rfl, hW⟩)
    · have z0' : 0 ≤ z := by omega
      have z1 : (P : Int) < z := by
        rcases HZ.out hal with h | h
        · omega
        · exact h
      clear z0 hal
      go_wp2_with (fail)
      refine (give_c 1 _).mono ?_
      rintro e w'' ⟨rfl, rfl⟩
      go_wp2
      refine two_up (fun _ _ => rfl) (HT.out.over (below_drewN (Below.refl _ _) 1)) (fun W h1 h2 => zero3_c _ _ W h1 h2) (fun W h1 h2 => by simp [results, Try.results14, go_sem, h1, h2]) (fun W hW => ⟨rfl, hW⟩)
  · go_wp2
    refine two_up (fun _ _ => rfl) (HT.out.over (below_drewN (Below.refl _ _) 1)) (fun W h1 h2 => zero3_c _ _ W h1 h2) (fun W h1 h2 => by simp [results, Try.results14, go_sem, h1, h2]) (fun W hW => ⟨rfl, hW⟩)

/-- Parity's two ways to ask are one. -/
theorem par_same {s k : Nat} {L : Nat → Nat} (hk : 1 ≤ k) : (alikeB s k L = true ∧ ∀ i, i < s → 0 < L i) ↔ (s = k ∧ 0 < L 0 ∧ ∀ i, i < k → L i = L 0) := by
  constructor
  · rintro ⟨h, hp⟩
    obtain ⟨rfl, ho⟩ := of_decide_eq_true h
    have h0 : L 0 = maxL L s := by
      rcases ho 0 (by omega) with h | h
      · have := hp 0 (by omega); omega
      · exact h
    refine ⟨rfl, hp 0 (by omega), fun i hi => ?_⟩
    rcases ho i hi with h | h
    · have := hp i hi; omega
    · rw [h, h0]
  · rintro ⟨rfl, h0, h⟩
    exact ⟨alike_of (q := L 0) (fun i hi => .inr (h i hi)), fun i hi => by rw [h i hi]; exact h0⟩

theorem sumL_bound {L : Nat → Nat} {B : Nat} : ∀ {n : Nat}, (∀ i, i < n → L i ≤ B) → sumL L n ≤ n * B
  | 0, _ => by simp [sumL]
  | n + 1, h => by
    have h1 := sumL_bound (n := n) (fun i hi => h i (by omega))
    have h2 := h n (by omega)
    rw [Nat.succ_mul]
    show sumL L n + L n ≤ _
    omega
theorem sumL_part' {L : Nat → Nat} : ∀ {n i : Nat}, i < n → L i ≤ sumL L n
  | n + 1, i, hi => by
    show L i ≤ sumL L n + L n
    rcases Nat.lt_succ_iff_lt_or_eq.1 hi with h | h
    · have := sumL_part' (L := L) h; omega
    · subst h; omega
def rsFewB (s : Nat) (L : Nat → Nat) : Bool := decide (s ≤ 40 ∧ sumL L s ≤ 4000)

set_option maxRecDepth 100000 in
set_option maxHeartbeats 2000000 in
theorem few_c (A : Option Addr) (s c : Nat) (L : Nat → Nat) (G : Nat → Nat → Gf.E) (w : World) (ha : RdM w A s L G) (hs : s ≤ 4611686018427387904) (hl : ∀ i, i < s → L i ≤ 140737488355328) :
    Calls Try.prog 16 #[.slice A s c] w fun e w' => e = .returned (.bool (rsFewB s L)) ∧ w = w' := by
  obtain ⟨Ar, Cr, hr, _⟩ := ha
  have HR := Lib.hid hr
  clear hr
  by_cases h40 : s ≤ 40
  · have HB := Lib.hid (fun i (hi : i ≤ s) => show sumL L i ≤ 5629499534213120 from by
      have h1 := sumL_bound (L := L) (B := 140737488355328) (n := i) (fun j hj => hl j (by omega))
      have h2 : i * 140737488355328 ≤ 40 * 140737488355328 := Nat.mul_le_mul_right _ (by omega)
      omega)
    have h40' : (s : Int) ≤ 40 := by omega
    clear hl
    go_enter Try.func16, Try.ntmps16
    go_wp2_with (fail)
    go_loopg [3, 4] s (fun kq v3 v4 wr => ∃ i S : Nat, i + kq = s ∧ Hid (S = sumL L i) ∧ v3 = .int .i64 (S : Int) ∧ v4 = .int .i64 (i : Int) ∧ w = wr)
    case atStart => exact ⟨0, 0, by omega, Lib.hid rfl, rfl, rfl, rfl⟩
    case round =>
      obtain ⟨i, S, hi0, HS, rfl, rfl, rfl⟩ := hrel
      have hS := HB.out i (by omega)
      rw [← HS.out] at hS
      by_cases hlt : i < s
      · obtain ⟨ad, rfl, f1⟩ := HR.out.at_ hlt
        have i1 : (i : Int) < (s : Int) := by omega
        have i0 : (0 : Int) ≤ (i : Int) := by omega
        obtain ⟨q, hq⟩ : ∃ q, q = L i := ⟨_, rfl⟩
        rw [← hq] at f1
        have HS2 : Hid (S + q = sumL L (i + 1)) := Lib.hid (by rw [hq, HS.out]; rfl)
        have hS2 : S + q ≤ 5629499534213120 := by
          have := HB.out (i + 1) hlt
          rw [← HS2.out] at this; exact this
        clear hq
        go_wp2_with (fail)
        go_roundg (s - (i + 1))
        case measure => omega
        case rel => exact ⟨i + 1, S + q, by omega, HS2, by go_num, by go_num, rfl⟩
      · obtain rfl : i = s := by omega
        by_cases h4 : S ≤ 4000
        · have d1 : (S : Int) ≤ 4000 := by omega
          have HF := Lib.hid (show rsFewB i L = true from decide_eq_true ⟨h40, by rw [← HS.out]; exact h4⟩)
          clear h4
          go_wp2_with (fail)
          go_ret
          exact ⟨by rw [HF.out]; first | rfl | (show Ending.returned (.bool (decide ((S : Int) ≤ 4000))) = _; rw [decide_eq_true d1]), rfl⟩
        · have d1 : (4000 : Int) < (S : Int) := by omega
          have HF := Lib.hid (show rsFewB i L = false from decide_eq_false (fun h => h4 (by rw [HS.out]; exact h.2)))
          clear h4
          go_wp2_with (fail)
          go_ret
          exact ⟨by rw [HF.out]; first | rfl | (show Ending.returned (.bool (decide ((S : Int) ≤ 4000))) = _; rw [decide_eq_false (by omega)]), rfl⟩
  · have h40' : (40 : Int) < (s : Int) := by omega
    have HF := Lib.hid (show rsFewB s L = false from decide_eq_false (fun h => h40 h.1))
    rw [HF.out]
    clear hl h40
    go_enter Try.func16, Try.ntmps16
    go_wp2_with (fail)
    go_loopg [3, 4] s (fun kq v3 v4 wr => ∃ (i : Nat) (S : Int), i + kq = s ∧ v3 = .int .i64 S ∧ v4 = .int .i64 (i : Int) ∧ w = wr)
    case atStart => exact ⟨0, 0, by omega, rfl, rfl, rfl⟩
    case round =>
      obtain ⟨i, S, hi0, rfl, rfl, rfl⟩ := hrel
      by_cases hlt : i < s
      · obtain ⟨ad, rfl, f1⟩ := HR.out.at_ hlt
        have i1 : (i : Int) < (s : Int) := by omega
        have i0 : (0 : Int) ≤ (i : Int) := by omega
        go_wp2_with (fail)
        go_roundg (s - (i + 1))
        case measure => omega
        case rel => exact ⟨i + 1, _, by omega, rfl, by go_num, rfl⟩
      · obtain rfl : i = s := by omega
        go_wp2_with (fail)
        go_ret
        exact ⟨rfl, rfl⟩

theorem rdm_none {w : World} {L : Nat → Nat} {F : Nat → Nat → Gf.E} : RdM w none 0 L F := ⟨fun _ => none, fun _ => 0, RdF.none_, fun i hi => absurd hi (Nat.not_lt_zero _)⟩
theorem any_none {L : Nat → Nat} {s : Nat} : anyB (noneB L) s = true ↔ ∃ i, i < s ∧ L i = 0 := by
  unfold anyB
  simp [noneB]
theorem NewMat.told {w w' : World} {v : Value} {n q : Nat} {F : Nat → Nat → Gf.E} (h : NewMat w w' v n q F) : ∃ A c, v = .slice A n c ∧ RdM w' A n (fun _ => q) F ∧ Below w.heap.size w w' := by
  obtain ⟨g, cap, bs, rfl, hcap, hM, _, _, _, hb⟩ := h
  exact ⟨_, _, rfl, hM.rd, hb⟩

/-! ### Parity -/
def parN (s k m : Nat) (L : Nat → Nat) : Nat := if parB s k L = true then m else 0
def parX (s k : Nat) (L : Nat → Nat) : Int := if parB s k L = true then 0 else 1
def ParT (s k m : Nat) (L : Nat → Nat) (G : Nat → Nat → Gf.E) (w : World) (e : Ending) (w' : World) : Prop :=
  ∃ A c, e = .returned (.tuple #[.slice A (parN s k m L) c, .int .i64 (parX s k L)]) ∧ Hid (RdM w' A (parN s k m L) (fun _ => L 0) (timesF (cauE k) G k)) ∧ Hid (Below w.heap.size w w')
theorem parT_no {s k m : Nat} {L : Nat → Nat} {G : Nat → Nat → Gf.E} {w w' : World} (h : parB s k L = false) (hb : Below w.heap.size w w') : ParT s k m L G w (.returned (.tuple #[.slice none 0 0, .int .i64 1])) w' := by
  refine ⟨none, 0, ?_, ?_, Lib.hid hb⟩
  · simp [parN, parX, h]
  · have : parN s k m L = 0 := by simp [parN, h]
    rw [this]; exact Lib.hid rdm_none
theorem parT_zero {s k : Nat} {L : Nat → Nat} {G : Nat → Nat → Gf.E} {w w' : World} (h : parB s k L = true) (hb : Below w.heap.size w w') : ParT s k 0 L G w (.returned (.tuple #[.slice none 0 0, .int .i64 0])) w' := by
  refine ⟨none, 0, ?_, ?_, Lib.hid hb⟩
  · simp [parN, parX, h]
  · have : parN s k 0 L = 0 := by simp [parN]
    rw [this]; exact Lib.hid rdm_none
theorem parT_yes {s k m : Nat} {L : Nat → Nat} {G : Nat → Nat → Gf.E} {w w' : World} {v : Value} (h : parB s k L = true) (hN : NewMat w w' v m (L 0) (timesF (cauE k) G k)) : ParT s k m L G w (.returned (.tuple #[v, .int .i64 0])) w' := by
  obtain ⟨A, c, rfl, hr, hb⟩ := hN.told
  refine ⟨A, c, ?_, ?_, Lib.hid hb⟩
  · simp [parN, parX, h]
  · have : parN s k m L = m := by simp [parN, h]
    rw [this]; exact Lib.hid hr
theorem docparity_t (b k m s : Nat) (A : Option Addr) (c : Nat) (L : Nat → Nat) (G : Nat → Nat → Gf.E) (w : World) (hc : DocR w b k m) (hk : 1 ≤ k) (hkm : k + m ≤ 255) (ha : RdM w A s L G) (hs : s ≤ 1048576) (hl : ∀ i, i < s → L i ≤ 1048576) :
    Calls Try.prog 22 #[.pointer (some ⟨b, 0, none⟩), .slice A s c] w fun e w' => ParT s k m L G w e w' := by
  refine (docparity_c b k m s A c L G w hc hk hkm ha hs hl).mono ?_
  rintro e w' (⟨h, rfl, hb⟩ | ⟨h, ⟨rfl, rfl, hb⟩ | ⟨hm, v, rfl, hN⟩⟩)
  · exact parT_no h hb
  · exact parT_zero h hb
  · exact parT_yes h hN
theorem rsparity_t (b k m s : Nat) (A : Option Addr) (c : Nat) (L : Nat → Nat) (G : Nat → Nat → Gf.E) (w : World) (hc : CodeR w b k m) (hk : 1 ≤ k) (hkm : k + m ≤ 255) (ha : RdM w A s L G) (hs : s ≤ 1048576) (hl : ∀ i, i < s → L i ≤ 1048576) :
    Calls Try.prog 21 #[.pointer (some ⟨b, 0, none⟩), .slice A s c] w fun e w' => ParT s k m L G w e w' := by
  by_cases hp : parB s k L = true
  · have h2 := of_decide_eq_true hp
    obtain ⟨rfl, h0, h1⟩ := h2
    have ha' : RdM w A s (fun _ => L 0) G := ha.len h1
    by_cases hm : m = 0
    · subst hm
      refine (par_zero b s A c (L 0) G w hc ha' hk (by omega) h0 (hl 0 (by omega))).mono ?_
      rintro e w' ⟨rfl, hb⟩
      exact parT_zero hp hb
    · refine (par_yes b s m A c (L 0) G w hc ha' hk (by omega) hkm h0 (hl 0 (by omega))).mono ?_
      rintro e w' ⟨v, rfl, hN⟩
      exact parT_yes hp hN
  · have hp' : parB s k L = false := by simpa using hp
    by_cases hal : alikeB s k L = true
    · by_cases hn : anyB (noneB L) s = true
      · refine (par_no2 b k m A s c L G w hc ha hs hl hal hn).mono ?_
        rintro e w' ⟨rfl, hb⟩
        exact parT_no hp' hb
      · exfalso
        have h3 : ∀ i, i < s → 0 < L i := fun i hi => Decidable.byContradiction fun h => hn (any_none.2 ⟨i, hi, by omega⟩)
        exact hp (decide_eq_true ((par_same hk).1 ⟨hal, h3⟩))
    · refine (par_no1 b k m A s c L G w hc ha hs hl (by simpa using hal)).mono ?_
      rintro e w' ⟨rfl, hb⟩
      exact parT_no hp' hb

theorem rdb_none {w : World} {f : Nat → Gf.E} : RdB w none 0 f := RdF.none_
theorem maxL_upto {L : Nat → Nat} {s B : Nat} (h : ∀ i, i < s → L i ≤ B) : maxL L s ≤ B := by
  rcases maxL_is L s with h0 | ⟨j, hj, he⟩
  · omega
  · have := h j hj; omega
/-! ### Decode -/
def decB (s k m : Nat) (L : Nat → Nat) (z : Int) : Prop := alikeB s (k + m) L = true ∧ 0 ≤ z ∧ z ≤ ((k * maxL L s : Nat) : Int)
instance (s k m : Nat) (L : Nat → Nat) (z : Int) : Decidable (decB s k m L z) := by unfold decB; infer_instance
def decN (s k m : Nat) (L : Nat → Nat) (z : Int) : Nat := if decB s k m L z then (if k ≤ (presTo L s).length then z.toNat else 0) else 0
def decX (s k m : Nat) (L : Nat → Nat) (z : Int) : Int := if decB s k m L z then (if k ≤ (presTo L s).length then 0 else 16) else 1
def DecT (P : (Nat → Nat → Gf.E) → Prop) (s k m : Nat) (L : Nat → Nat) (z : Int) (w : World) (e : Ending) (w' : World) : Prop :=
  ∃ A c f, e = .returned (.tuple #[.slice A (decN s k m L z) c, .int .i64 (decX s k m L z)]) ∧ Hid (RdB w' A (decN s k m L z) f) ∧ Hid (Below w.heap.size w w') ∧ Hid (0 < decN s k m L z → ∃ D, P D ∧ ∀ t, t < decN s k m L z → f t = conF (maxL L s) D t)
theorem decT_bad {P : (Nat → Nat → Gf.E) → Prop} {s k m : Nat} {L : Nat → Nat} {z : Int} {w w' : World} (h : ¬ decB s k m L z) (hb : Below w.heap.size w w') : DecT P s k m L z w (.returned (.tuple #[.slice none 0 0, .int .i64 1])) w' := by
  have e1 : decN s k m L z = 0 := by simp [decN, h]
  have e2 : decX s k m L z = 1 := by simp [decX, h]
  refine ⟨none, 0, fun _ => 0, by rw [e1, e2], by rw [e1]; exact Lib.hid rdb_none, Lib.hid hb, by rw [e1]; exact Lib.hid (fun h => absurd h (Nat.lt_irrefl 0))⟩
theorem decT_few {P : (Nat → Nat → Gf.E) → Prop} {s k m : Nat} {L : Nat → Nat} {z : Int} {w w' : World} (h : decB s k m L z) (hp : ¬ k ≤ (presTo L s).length) (hb : Below w.heap.size w w') : DecT P s k m L z w (.returned (.tuple #[.slice none 0 0, .int .i64 16])) w' := by
  have e1 : decN s k m L z = 0 := by simp [decN, hp]
  have e2 : decX s k m L z = 16 := by simp [decX, h, hp]
  refine ⟨none, 0, fun _ => 0, by rw [e1, e2], by rw [e1]; exact Lib.hid rdb_none, Lib.hid hb, by rw [e1]; exact Lib.hid (fun h => absurd h (Nat.lt_irrefl 0))⟩
theorem decT_yes {P : (Nat → Nat → Gf.E) → Prop} {s k m : Nat} {L : Nat → Nat} {z : Int} {w w' : World} {A : Option Addr} {c : Nat} {D : Nat → Nat → Gf.E} (h : decB s k m L z) (hp : k ≤ (presTo L s).length) (hP : P D) (hr : RdB w' A z.toNat (conF (maxL L s) D)) (hb : Below w.heap.size w w') : DecT P s k m L z w (.returned (.tuple #[.slice A z.toNat c, .int .i64 0])) w' := by
  have e1 : decN s k m L z = z.toNat := by simp [decN, h, hp]
  have e2 : decX s k m L z = 0 := by simp [decX, h, hp]
  refine ⟨A, c, conF (maxL L s) D, by rw [e1, e2], by rw [e1]; exact Lib.hid hr, Lib.hid hb, Lib.hid (fun _ => ⟨D, hP, fun t _ => rfl⟩)⟩
theorem dec_agree {s k m : Nat} {L : Nat → Nat} {G : Nat → Nat → Gf.E} {z : Int} {f f' : Nat → Gf.E} (hk : k ≤ s) (h : 0 < decN s k m L z → ∃ D, WholeD L G k s D ∧ ∀ t, t < decN s k m L z → f t = conF (maxL L s) D t) (h' : 0 < decN s k m L z → ∃ D, DocD L G k s D ∧ ∀ t, t < decN s k m L z → f' t = conF (maxL L s) D t) : ∀ t, t < decN s k m L z → f t = f' t := by
  intro t ht
  obtain ⟨D, h1, h2⟩ := h (by omega)
  obtain ⟨D', h3, h4⟩ := h' (by omega)
  have hz : decN s k m L z ≤ k * maxL L s := by
    unfold decN
    by_cases hd : decB s k m L z
    · rw [if_pos hd]
      have := hd.2.2
      split <;> omega
    · rw [if_neg hd]; exact Nat.zero_le _
  rw [h2 t ht, h4 t ht]
  exact con_same hk h1 h3 hz ht
theorem docdec_t (b k m s : Nat) (A : Option Addr) (c : Nat) (z : Int) (L : Nat → Nat) (G : Nat → Nat → Gf.E) (w : World) (hc : DocR w b k m) (hk : 1 ≤ k) (hkm : k + m ≤ 255) (ha : RdM w A s L G) (hs : s ≤ 1048576) (hl : ∀ i, i < s → L i ≤ 1048576) (hz : -9223372036854775808 ≤ z ∧ z ≤ 9223372036854775807) :
    Calls Try.prog 23 #[.pointer (some ⟨b, 0, none⟩), .int .i64 z, .slice A s c] w fun e w' => DecT (DocD L G k s) s k m L z w e w' := by
  refine (docdec_c b k m s A c z L G w hc hk hkm ha hs hl hz).mono ?_
  rintro e w' (⟨h, rfl, hb⟩ | ⟨h, ⟨hp, rfl, hb⟩ | ⟨hp, A', c', D, rfl, hD, hr, hb⟩⟩)
  · exact decT_bad (fun hd => by
      rcases h with h | h | h
      · rw [hd.1] at h; cases h
      · have := hd.2.1; omega
      · have := hd.2.2; omega) hb
  · exact decT_few h (by omega) hb
  · exact decT_yes h hp hD hr hb
theorem rsdec_t (b k m s : Nat) (A : Option Addr) (c : Nat) (z : Int) (L : Nat → Nat) (G : Nat → Nat → Gf.E) (w : World) (hc : CodeR w b k m) (hk : 1 ≤ k) (hkm : k + m ≤ 255) (ha : RdM w A s L G) (hs : s ≤ 1048576) (hl : ∀ i, i < s → L i ≤ 1048576) (hsc : s ≤ c) (hz : -9223372036854775808 ≤ z ∧ z ≤ 9223372036854775807) :
    Calls Try.prog 14 #[.pointer (some ⟨b, 0, none⟩), .int .i64 z, .slice A s c] w fun e w' => DecT (WholeD L G k s) s k m L z w e w' := by
  by_cases hd : decB s k m L z
  · obtain ⟨h1, h2, h3⟩ := id hd
    obtain ⟨hsk, ho⟩ := of_decide_eq_true h1
    obtain ⟨zn, rfl⟩ := Int.eq_ofNat_of_zero_le h2
    have hmb := maxL_upto hl
    obtain ⟨q, hq⟩ : ∃ q, q = max 1 (maxL L s) := ⟨_, rfl⟩
    refine (decode_yes b k m s A c q zn L G w hsk hc hk (by omega) ha hsc (fun i hi => by rcases ho i hi with h | h <;> omega) (by omega) (by omega) h1 (by omega)).mono ?_
    rintro e w' (⟨hx, rfl, hb⟩ | ⟨hx, g, rfl, _, D, hD, hr, hb⟩)
    · exact decT_few hd (by rw [rows_pres] at hx; omega) hb
    · have hp : k ≤ (presTo L s).length := by rw [rows_pres] at hx; omega
      have hm : 1 ≤ maxL L s := pres_pos (by omega)
      have e : q = maxL L s := by omega
      rw [e] at hr
      exact decT_yes hd hp hD hr.rd hb
  · refine (decode_bad b k m s A c z L G w hc hk hkm ha hs hl hz (fun h1 => Decidable.byContradiction fun h2 => hd ⟨h1, by omega, by omega⟩)).mono ?_
    rintro e w' ⟨rfl, hb⟩
    exact decT_bad hd hb

/-! ### Repair -/
def repN (s k m : Nat) (L : Nat → Nat) : Nat := if alikeB s (k + m) L = true then (if k ≤ (presTo L s).length then s else 0) else 0
def repX (s k m : Nat) (L : Nat → Nat) : Int := if alikeB s (k + m) L = true then (if k ≤ (presTo L s).length then 0 else 16) else 1
def RepT (P : (Nat → Nat → Gf.E) → Prop) (s k m : Nat) (L : Nat → Nat) (G : Nat → Nat → Gf.E) (w : World) (e : Ending) (w' : World) : Prop :=
  ∃ A c F, e = .returned (.tuple #[.slice A (repN s k m L) c, .int .i64 (repX s k m L)]) ∧ Hid (RdM w' A (repN s k m L) (fun _ => maxL L s) F) ∧ Hid (Below w.heap.size w w') ∧ Hid (0 < repN s k m L → ∃ D, P D ∧ F = repF L G D k)
theorem repT_bad {P : (Nat → Nat → Gf.E) → Prop} {s k m : Nat} {L : Nat → Nat} {G : Nat → Nat → Gf.E} {w w' : World} (h : alikeB s (k + m) L = false) (hb : Below w.heap.size w w') : RepT P s k m L G w (.returned (.tuple #[.slice none 0 0, .int .i64 1])) w' := by
  have e1 : repN s k m L = 0 := by simp [repN, h]
  have e2 : repX s k m L = 1 := by simp [repX, h]
  refine ⟨none, 0, fun _ _ => 0, by rw [e1, e2], by rw [e1]; exact Lib.hid rdm_none, Lib.hid hb, by rw [e1]; exact Lib.hid (fun h => absurd h (Nat.lt_irrefl 0))⟩
theorem repT_few {P : (Nat → Nat → Gf.E) → Prop} {s k m : Nat} {L : Nat → Nat} {G : Nat → Nat → Gf.E} {w w' : World} (h : alikeB s (k + m) L = true) (hp : ¬ k ≤ (presTo L s).length) (hb : Below w.heap.size w w') : RepT P s k m L G w (.returned (.tuple #[.slice none 0 0, .int .i64 16])) w' := by
  have e1 : repN s k m L = 0 := by simp [repN, hp]
  have e2 : repX s k m L = 16 := by simp [repX, h, hp]
  refine ⟨none, 0, fun _ _ => 0, by rw [e1, e2], by rw [e1]; exact Lib.hid rdm_none, Lib.hid hb, by rw [e1]; exact Lib.hid (fun h => absurd h (Nat.lt_irrefl 0))⟩
theorem repT_yes {P : (Nat → Nat → Gf.E) → Prop} {s k m : Nat} {L : Nat → Nat} {G : Nat → Nat → Gf.E} {w w' : World} {A : Option Addr} {c : Nat} {D : Nat → Nat → Gf.E} (h : alikeB s (k + m) L = true) (hp : k ≤ (presTo L s).length) (hP : P D) (hr : RdM w' A s (fun _ => maxL L s) (repF L G D k)) (hb : Below w.heap.size w w') : RepT P s k m L G w (.returned (.tuple #[.slice A s c, .int .i64 0])) w' := by
  have e1 : repN s k m L = s := by simp [repN, h, hp]
  have e2 : repX s k m L = 0 := by simp [repX, h, hp]
  refine ⟨A, c, repF L G D k, by rw [e1, e2], by rw [e1]; exact Lib.hid hr, Lib.hid hb, Lib.hid (fun _ => ⟨D, hP, rfl⟩)⟩
theorem rep_agree {s k m : Nat} {L : Nat → Nat} {G F F' : Nat → Nat → Gf.E} (hk : k ≤ s) (h : 0 < repN s k m L → ∃ D, WholeD L G k s D ∧ F = repF L G D k) (h' : 0 < repN s k m L → ∃ D, DocD L G k s D ∧ F' = repF L G D k) :
    sameB (repN s k m L) (repN s k m L) (fun _ => maxL L s) (fun _ => maxL L s) F F' = true :=
  sameB_true ⟨rfl, fun i hi => ⟨rfl, fun x _ => by
    obtain ⟨D, h1, rfl⟩ := h (by omega)
    obtain ⟨D', h2, rfl⟩ := h' (by omega)
    exact rep_same hk h1 h2 i x⟩⟩
theorem docrep_t (b k m s : Nat) (A : Option Addr) (c : Nat) (L : Nat → Nat) (G : Nat → Nat → Gf.E) (w : World) (hc : DocR w b k m) (hk : 1 ≤ k) (hkm : k + m ≤ 255) (ha : RdM w A s L G) (hs : s ≤ 1048576) (hl : ∀ i, i < s → L i ≤ 1048576) :
    Calls Try.prog 24 #[.pointer (some ⟨b, 0, none⟩), .slice A s c] w fun e w' => RepT (DocD L G k s) s k m L G w e w' := by
  refine (docrepair_c b k m s A c L G w hc hk hkm ha hs hl).mono ?_
  rintro e w' (⟨h, rfl, hb⟩ | ⟨h, ⟨hp, rfl, hb⟩ | ⟨hp, A', c', D, rfl, hD, hr, hb⟩⟩)
  · exact repT_bad h hb
  · exact repT_few h (by omega) hb
  · exact repT_yes h hp hD hr hb
theorem rsrep_t (b k m s : Nat) (A : Option Addr) (c : Nat) (L : Nat → Nat) (G : Nat → Nat → Gf.E) (w : World) (hc : CodeR w b k m) (hk : 1 ≤ k) (hkm : k + m ≤ 255) (ha : RdM w A s L G) (hs : s ≤ 1048576) (hl : ∀ i, i < s → L i ≤ 1048576) (hsc : s ≤ c) :
    Calls Try.prog 11 #[.pointer (some ⟨b, 0, none⟩), .slice A s c] w fun e w' => RepT (WholeD L G k s) s k m L G w e w' := by
  by_cases h1 : alikeB s (k + m) L = true
  · obtain ⟨hsk, ho⟩ := of_decide_eq_true h1
    have hmb := maxL_upto hl
    obtain ⟨q, hq⟩ : ∃ q, q = max 1 (maxL L s) := ⟨_, rfl⟩
    refine (repair_yes b k m s A c q L G w hsk hc hk (by omega) ha hsc (fun i hi => by rcases ho i hi with h | h <;> omega) (by omega) (by omega) h1).mono ?_
    rintro e w' (⟨hx, rfl, hb⟩ | ⟨hx, v, D, rfl, hD, hN⟩)
    · exact repT_few h1 (by rw [rows_pres] at hx; omega) hb
    · have hp : k ≤ (presTo L s).length := by rw [rows_pres] at hx; omega
      have hm : 1 ≤ maxL L s := pres_pos (by omega)
      have e : q = maxL L s := by omega
      rw [e] at hN
      obtain ⟨A', c', rfl, hr, hb⟩ := hN.told
      exact repT_yes h1 hp hD hr hb
  · have h1' : alikeB s (k + m) L = false := by simpa using h1
    refine (repair_no b k m s A c L G w hc hkm ha hs hl h1').mono ?_
    rintro e w' ⟨rfl, hb⟩
    exact repT_bad h1' hb

/-! ### Check -/
def chkOk (s k m : Nat) (L : Nat → Nat) : Bool := decide (alikeB s (k + m) L = true ∧ ¬ (presTo L s).length < s)
def chkB (s k m : Nat) (L : Nat → Nat) (G : Nat → Nat → Gf.E) : Bool := if chkOk s k m L = true then sameB m m (fun _ => maxL L s) (fun _ => maxL L s) (timesF (cauE k) G k) (fun i => G (k + i)) else false
def chkX (s k m : Nat) (L : Nat → Nat) : Int := if chkOk s k m L = true then 0 else 1
theorem chk_no {s k m : Nat} {L : Nat → Nat} {G : Nat → Nat → Gf.E} (h : alikeB s (k + m) L = false ∨ (presTo L s).length < s) : chkB s k m L G = false ∧ chkX s k m L = 1 := by
  have e : chkOk s k m L = false := decide_eq_false (fun h2 => by
    rcases h with h | h
    · rw [h2.1] at h; cases h
    · exact h2.2 h)
  simp [chkB, chkX, e]
theorem chk_yes {s k m : Nat} {L : Nat → Nat} {G : Nat → Nat → Gf.E} (h : alikeB s (k + m) L = true) (hp : ¬ (presTo L s).length < s) : chkB s k m L G = sameB m m (fun _ => maxL L s) (fun _ => maxL L s) (timesF (cauE k) G k) (fun i => G (k + i)) ∧ chkX s k m L = 0 := by
  have e : chkOk s k m L = true := decide_eq_true ⟨h, hp⟩
  simp [chkB, chkX, e]
theorem docchk_t (b k m s : Nat) (A : Option Addr) (c : Nat) (L : Nat → Nat) (G : Nat → Nat → Gf.E) (w : World) (hc : DocR w b k m) (hk : 1 ≤ k) (hkm : k + m ≤ 255) (ha : RdM w A s L G) (hs : s ≤ 1048576) (hl : ∀ i, i < s → L i ≤ 1048576) (hsc : s ≤ c) :
    Calls Try.prog 25 #[.pointer (some ⟨b, 0, none⟩), .slice A s c] w fun e w' => e = .returned (.tuple #[.bool (chkB s k m L G), .int .i64 (chkX s k m L)]) ∧ Hid (Below w.heap.size w w') := by
  refine (doccheck_c b k m s A c L G w hc hk hkm ha hs hl hsc).mono ?_
  rintro e w' (⟨h, rfl, hb⟩ | ⟨h, hp, rfl, hb⟩)
  · obtain ⟨e1, e2⟩ := chk_no (G := G) h
    exact ⟨by rw [e1, e2], Lib.hid hb⟩
  · obtain ⟨e1, e2⟩ := chk_yes (G := G) h hp
    exact ⟨by rw [e1, e2], Lib.hid hb⟩
theorem rschk_t (b k m s : Nat) (A : Option Addr) (c : Nat) (L : Nat → Nat) (G : Nat → Nat → Gf.E) (w : World) (hc : CodeR w b k m) (hk : 1 ≤ k) (hkm : k + m ≤ 255) (ha : RdM w A s L G) (hs : s ≤ 1048576) (hl : ∀ i, i < s → L i ≤ 1048576) (hsc : s ≤ c) :
    Calls Try.prog 10 #[.pointer (some ⟨b, 0, none⟩), .slice A s c] w fun e w' => e = .returned (.tuple #[.bool (chkB s k m L G), .int .i64 (chkX s k m L)]) ∧ Hid (Below w.heap.size w w') := by
  by_cases h1 : alikeB s (k + m) L = true
  · obtain ⟨hsk, ho⟩ := of_decide_eq_true h1
    by_cases hn : anyB (noneB L) s = true
    · refine (check_no2 b k m A s c L G w hc hkm ha hs hl h1 hn).mono ?_
      rintro e w' ⟨rfl, hb⟩
      obtain ⟨i, hi, h0⟩ := any_none.1 hn
      obtain ⟨e1, e2⟩ := chk_no (G := G) (m := m) (k := k) (s := s) (L := L) (.inr (Decidable.byContradiction fun h => by have := pres_full h i hi; omega))
      exact ⟨by rw [e1, e2], Lib.hid hb⟩
    · have h3 : ∀ i, i < s → 0 < L i := fun i hi => Decidable.byContradiction fun h => hn (any_none.2 ⟨i, hi, by omega⟩)
      have hmb := maxL_upto hl
      have h4 : ∀ i, i < s → L i = maxL L s := fun i hi => by
        rcases ho i hi with h | h
        · have := h3 i hi; omega
        · exact h
      have hm1 : 1 ≤ maxL L s := by have := h3 0 (by omega); have := h4 0 (by omega); omega
      have ha' := ha.len h4
      have hp : ¬ (presTo L s).length < s := fun hx => by
        have h5 := pres_count L s
        have h6 : 0 < ((List.range s).filter (noneB L)).length := by omega
        obtain ⟨j, hj⟩ := List.exists_mem_of_length_pos h6
        rw [List.mem_filter, List.mem_range] at hj
        have h7 : L j = 0 := of_decide_eq_true hj.2
        have := h3 j hj.1
        omega
      obtain ⟨e1, e2⟩ := chk_yes (G := G) (m := m) (k := k) h1 hp
      rw [e1, e2]
      subst hsk
      refine (check_yes b k m A c (maxL L (k + m)) G w hc hk hkm ha' hsc hm1 hmb).mono ?_
      rintro e w' ⟨rfl, hb⟩
      exact ⟨rfl, Lib.hid hb⟩
  · have h1' : alikeB s (k + m) L = false := by simpa using h1
    refine (check_no1 b k m A s c L G w hc hkm ha hs hl h1').mono ?_
    rintro e w' ⟨rfl, hb⟩
    obtain ⟨e1, e2⟩ := chk_no (G := G) (m := m) (k := k) (s := s) (L := L) (.inl h1')
    exact ⟨by rw [e1, e2], Lib.hid hb⟩
end Go.Proofs.Ytccfnhocjiehnaa
