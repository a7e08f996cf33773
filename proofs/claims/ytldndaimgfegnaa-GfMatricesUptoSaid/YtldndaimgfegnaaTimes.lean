/- gf's product of matrices. -/
import Derived.Test.YtldndaimgfegnaaRight
namespace Go.Proofs.Ytldndaimgfegnaa
open Go.RowKit
set_option linter.unusedVariables false
set_option linter.unusedSimpArgs false

def sumE : Nat → (Nat → Gf.E) → Gf.E
  | 0, _ => 0
  | k + 1, f => Gf.add (sumE k f) (f k)
theorem sumE_congr {f g : Nat → Gf.E} : ∀ {n : Nat}, (∀ k, k < n → f k = g k) → sumE n f = sumE n g
  | 0, _ => rfl
  | n + 1, h => by simp only [sumE]; rw [sumE_congr (fun k hk => h k (by omega)), h n (by omega)]
def timesF (F G : Nat → Nat → Gf.E) (m : Nat) : Nat → Nat → Gf.E := fun i j => sumE m (fun k => Gf.mul (F i k) (G k j))

theorem mul_v (x y : Gf.E) (w : World) : Calls Try.prog 19 #[.int .u8 (x.val : Int), .int .u8 (y.val : Int)] w fun e w' => e = .returned (.int .u8 ((Gf.mul x y).val : Int)) ∧ w = w' := mul_c x y w
theorem add_v (x y : Gf.E) (w : World) : Calls Try.prog 18 #[.int .u8 (x.val : Int), .int .u8 (y.val : Int)] w fun e w' => e = .returned (.int .u8 ((Gf.add x y).val : Int)) ∧ w = w' := add_c x y w

set_option maxRecDepth 100000 in
set_option maxHeartbeats 1000000 in
/-- One element: row i of the first, column j of the second. -/
theorem times1_c (i j : Nat) (A B : Option Addr) (n c m d : Nat) (L M : Nat → Nat) (F G : Nat → Nat → Gf.E) (g1 g2 : Nat) (w : World) (hi : i < n) (hm0 : 0 < m) (hL : L i = m) (hM : ∀ k, k < m → j < M k) (hm : m ≤ 255) (hn : n ≤ 255) (hMl : ∀ k, k < m → M k ≤ 255) (hj : j < 256)
    (ha : RdM w A n L F) (hb : RdM w B m M G) (h1 : w.cell? ⟨g1, 0, none⟩ = some (.slice A n c)) (h2 : w.cell? ⟨g2, 0, none⟩ = some (.slice B m d)) :
    Calls Try.prog 57 (#[.int .i64 i, .int .i64 j] ++ #[.pointer (some ⟨g2, 0, none⟩), .pointer (some ⟨g1, 0, none⟩)]) w fun e w' => e = .returned (vb (timesF F G m i j)) ∧ Drew w w' := by
  obtain ⟨Ar, Cr, hr, hrow⟩ := ha
  obtain ⟨Br, Dr, hr2, hrow2⟩ := hb
  obtain ⟨ad, rfl, hci⟩ := hr.at_ hi
  have hrowi := (hrow i hi).2
  rw [hL] at hci hrowi
  have HI := Lib.hid hrowi
  have HR2 := Lib.hid hr2
  have HW2 := Lib.hid hrow2
  have HM := Lib.hid hM
  have HML := Lib.hid hMl
  obtain ⟨ai, hai, hci0⟩ := hrowi hm0
  rw [hai] at hci
  have HC := Lib.hid hci0
  have hn1 : (i : Int) < (n : Int) := by omega
  clear hr hrow hr2 hrow2 hrowi hM hMl hL hci0 HI
  go_enter Try.func57, Try.ntmps57
  go_wp2
  go_loopg [7, 11] m (fun kq v7 v11 wr => ∃ k : Nat, k + kq = m ∧ v11 = .int .i64 (k : Int) ∧ v7 = .int .u8 ((sumE k (fun k => Gf.mul (F i k) (G k j))).val : Int) ∧ Drew w wr)
  case atStart => exact ⟨0, by omega, rfl, rfl, Drew.refl _⟩
  case round =>
    obtain ⟨k, hk, rfl, rfl, hD⟩ := hrel
    replace hD := Lib.hid hD
    replace h1 := hD.out.cell h1
    replace h2 := hD.out.cell h2
    replace hci := hD.out.cell hci
    by_cases hlt : k < m
    · have hck := hD.out.cell (HC.out k hlt)
      obtain ⟨bd, rfl, hc2⟩ := HR2.out.at_ hlt
      have hjM := HM.out k hlt
      have hMk := HML.out k hlt
      obtain ⟨be, hbe, hce⟩ := (HW2.out k hlt).2.at_ hjM
      rw [hbe] at hc2
      replace hc2 := hD.out.cell hc2
      replace hce := hD.out.cell hce
      have hk1 : (k : Int) < (m : Int) := by omega
      have hj1 : (j : Int) < (M k : Int) := by omega
      clear hbe
      unfold vb at hck hce
      have hk0 : (0 : Int) ≤ (k : Int) := by omega
      have hi0 : (0 : Int) ≤ (i : Int) := by omega
      have hj0 : (0 : Int) ≤ (j : Int) := by omega
      go_wp2
      go_quiet (first | (go_at_call 19; exact Calls.quiet_of_same ((mul_v _ _ _).mono fun e w' h => ⟨h.1, h.2.symm⟩)) | (go_at_call 18; exact Calls.quiet_of_same ((add_v _ _ _).mono fun e w' h => ⟨h.1, h.2.symm⟩)))
      go_wp2
      go_roundg (m - (k + 1))
      case measure => omega
      case rel => exact ⟨k + 1, by omega, by go_num, rfl, by repeat (first | exact hD.out | apply Drew.step)⟩
    · obtain rfl : k = m := by omega
      go_wp2
      go_ret
      exact ⟨rfl, by repeat (first | exact hD.out | apply Drew.step)⟩

def timesOk (n m : Nat) (L M : Nat → Nat) : Bool := rightB n L && (rightB m M && decide (L 0 = m))
theorem rightB_pos {n : Nat} {L : Nat → Nat} (h : rightB n L = true) : 1 ≤ n ∧ n ≤ 255 ∧ 1 ≤ L 0 ∧ L 0 ≤ 255 ∧ ∀ i, i < n → L i = L 0 := of_decide_eq_true h
/-- Two boxes: what came in, in memory. -/
theorem boxes2 (w : World) (x y : Value) (tx ty : TypeId) (hx : x.oneCell' = true) (hy : y.oneCell' = true) :
    ((w.alloc (.cells #[x] tx)).alloc (.cells #[y] ty)).cell? ⟨w.heap.size, 0, none⟩ = some x ∧ ((w.alloc (.cells #[x] tx)).alloc (.cells #[y] ty)).cell? ⟨w.heap.size + 1, 0, none⟩ = some y ∧ Below w.heap.size w ((w.alloc (.cells #[x] tx)).alloc (.cells #[y] ty)) := by
  refine ⟨?_, ?_, ((Below.refl _ _).alloc (Nat.le_refl _) _).alloc (by simp) _⟩
  · rw [World.cell?_alloc_past _ _ _ (by simp), World.cell?_alloc_at _ _ _ _ rfl]; rfl
  · rw [World.cell?_alloc_at _ _ _ _ (by simp)]; rfl

set_option maxRecDepth 100000 in
set_option maxHeartbeats 4000000 in
theorem times_no1 (A B : Option Addr) (n c m d : Nat) (L M : Nat → Nat) (F G : Nat → Nat → Gf.E) (w : World) (ha : RdM w A n L F) (hn : n ≤ 4611686018427387904) (hl : ∀ i, i < n → L i ≤ 4611686018427387904) (hf : rightB n L = false) :
    Calls Try.prog 31 #[.slice A n c, .slice B m d] w fun e w' => e = .returned (.tuple #[.slice none 0 0, .int .i64 1]) ∧ Below w.heap.size w w' := by
  obtain ⟨k1, k2, hb⟩ := boxes2 w (.slice A n c) (.slice B m d) 40 40 rfl rfl
  have HB := Lib.hid hb
  have HR := Lib.hid (fun x : Over ((w.alloc (.cells #[.slice A n c] 40)).alloc (.cells #[.slice B m d] 40)) => gright_c A n c L F x.w1 ((ha.below hb).below x.h) hn hl)
  have j1 := fun x : Over ((w.alloc (.cells #[.slice A n c] 40)).alloc (.cells #[.slice B m d] 40)) => x.cell k1
  rw [hf] at HR
  clear ha hl hf hb k1 k2
  go_enter Try.func31, Try.ntmps31
  go_wp2_with (fail)
  refine wp_region_over _ (by kernel_rfl) (by kernel_rfl) (Below.refl _ _) ?_
  repeat (go_big_quiet_step (first | (go_at_call 27; exact Over.call _ (HR.out _))))
  refine wpQuiet_nil ?_
  rintro _ ⟨x, rfl⟩
  go_wp2
  go_ret2
  exact ⟨rfl, below_then HB.out HB.out.size x.h⟩

set_option maxRecDepth 100000 in
set_option maxHeartbeats 4000000 in
theorem times_no2 (A B : Option Addr) (n c m d : Nat) (L M : Nat → Nat) (F G : Nat → Nat → Gf.E) (w : World) (ha : RdM w A n L F) (hb0 : RdM w B m M G) (hn : n ≤ 4611686018427387904) (hl : ∀ i, i < n → L i ≤ 4611686018427387904) (hm : m ≤ 4611686018427387904) (hl2 : ∀ i, i < m → M i ≤ 4611686018427387904)
    (hf : rightB n L = true) (hf2 : rightB m M = false) :
    Calls Try.prog 31 #[.slice A n c, .slice B m d] w fun e w' => e = .returned (.tuple #[.slice none 0 0, .int .i64 1]) ∧ Below w.heap.size w w' := by
  obtain ⟨k1, k2, hb⟩ := boxes2 w (.slice A n c) (.slice B m d) 40 40 rfl rfl
  have HB := Lib.hid hb
  have HR := Lib.hid (fun x : Over ((w.alloc (.cells #[.slice A n c] 40)).alloc (.cells #[.slice B m d] 40)) => gright_c A n c L F x.w1 ((ha.below hb).below x.h) hn hl)
  have HR2 := Lib.hid (fun x : Over ((w.alloc (.cells #[.slice A n c] 40)).alloc (.cells #[.slice B m d] 40)) => gright_c B m d M G x.w1 ((hb0.below hb).below x.h) hm hl2)
  have j1 := fun x : Over ((w.alloc (.cells #[.slice A n c] 40)).alloc (.cells #[.slice B m d] 40)) => x.cell k1
  have j2 := fun x : Over ((w.alloc (.cells #[.slice A n c] 40)).alloc (.cells #[.slice B m d] 40)) => x.cell k2
  rw [hf] at HR
  rw [hf2] at HR2
  clear ha hl hf hb hb0 hl2 hf2 k1 k2
  go_enter Try.func31, Try.ntmps31
  go_wp2_with (fail)
  refine wp_region_over _ (by kernel_rfl) (by kernel_rfl) (Below.refl _ _) ?_
  repeat (go_big_quiet_step (first | (go_at_call 27; with_reducible exact Over.call _ (HR.out _)) | (go_at_call 27; with_reducible exact Over.call _ (HR2.out _))))
  refine wpQuiet_nil ?_
  rintro _ ⟨x, rfl⟩
  go_wp2
  go_ret2
  exact ⟨rfl, below_then HB.out HB.out.size x.h⟩

set_option maxRecDepth 100000 in
set_option maxHeartbeats 4000000 in
theorem times_no3 (A B : Option Addr) (n c m d : Nat) (L M : Nat → Nat) (F G : Nat → Nat → Gf.E) (w : World) (ha : RdM w A n L F) (hb0 : RdM w B m M G) (hn : n ≤ 4611686018427387904) (hl : ∀ i, i < n → L i ≤ 4611686018427387904) (hm : m ≤ 4611686018427387904) (hl2 : ∀ i, i < m → M i ≤ 4611686018427387904)
    (hf : rightB n L = true) (hf2 : rightB m M = true) (hne : L 0 ≠ m) :
    Calls Try.prog 31 #[.slice A n c, .slice B m d] w fun e w' => e = .returned (.tuple #[.slice none 0 0, .int .i64 1]) ∧ Below w.heap.size w w' := by
  obtain ⟨k1, k2, hb⟩ := boxes2 w (.slice A n c) (.slice B m d) 40 40 rfl rfl
  obtain ⟨p1, p2, p3, p4, p5⟩ := rightB_pos hf
  have HB := Lib.hid hb
  have HR := Lib.hid (fun x : Over ((w.alloc (.cells #[.slice A n c] 40)).alloc (.cells #[.slice B m d] 40)) => gright_c A n c L F x.w1 ((ha.below hb).below x.h) hn hl)
  have HR2 := Lib.hid (fun x : Over ((w.alloc (.cells #[.slice A n c] 40)).alloc (.cells #[.slice B m d] 40)) => gright_c B m d M G x.w1 ((hb0.below hb).below x.h) hm hl2)
  have j1 := fun x : Over ((w.alloc (.cells #[.slice A n c] 40)).alloc (.cells #[.slice B m d] 40)) => x.cell k1
  have j2 := fun x : Over ((w.alloc (.cells #[.slice A n c] 40)).alloc (.cells #[.slice B m d] 40)) => x.cell k2
  obtain ⟨Ar, Cr, hr, _⟩ := ha.below hb
  obtain ⟨ad, rfl, k3⟩ := hr.at_ (show 0 < n by omega)
  rw [show ad.add 0 = ad by simp [Addr.add]] at k3
  have j3 := fun x : Over ((w.alloc (.cells #[.slice (some ad) n c] 40)).alloc (.cells #[.slice B m d] 40)) => x.cell k3
  have n1 : (0 : Int) < (n : Int) := by omega
  have n2 : (((L 0 : Nat) : Int) != (m : Int)) = true := by rw [bne_iff_ne]; omega
  rw [hf] at HR
  rw [hf2] at HR2
  clear ha hl hf hb hb0 hl2 hf2 k1 k2 k3 hr p5 hne
  go_enter Try.func31, Try.ntmps31
  go_wp2_with (fail)
  refine wp_region_over _ (by kernel_rfl) (by kernel_rfl) (Below.refl _ _) ?_
  repeat (go_big_quiet_step (first | (go_at_call 27; with_reducible exact Over.call _ (HR.out _)) | (go_at_call 27; with_reducible exact Over.call _ (HR2.out _))))
  refine wpQuiet_nil ?_
  rintro _ ⟨x, rfl⟩
  go_wp2
  go_ret2
  exact ⟨rfl, below_then HB.out HB.out.size x.h⟩

set_option maxRecDepth 100000 in
set_option maxHeartbeats 4000000 in
theorem times_yes (A B : Option Addr) (n c m d : Nat) (L M : Nat → Nat) (F G : Nat → Nat → Gf.E) (w : World) (ha : RdM w A n L F) (hb0 : RdM w B m M G) (hn : n ≤ 4611686018427387904) (hl : ∀ i, i < n → L i ≤ 4611686018427387904) (hm : m ≤ 4611686018427387904) (hl2 : ∀ i, i < m → M i ≤ 4611686018427387904)
    (hf : rightB n L = true) (hf2 : rightB m M = true) (heq : L 0 = m) :
    Calls Try.prog 31 #[.slice A n c, .slice B m d] w fun e w' => ∃ v, e = .returned (.tuple #[v, .int .i64 0]) ∧ NewMat w w' v n (M 0) (timesF F G m) := by
  obtain ⟨k1, k2, hb⟩ := boxes2 w (.slice A n c) (.slice B m d) 40 40 rfl rfl
  obtain ⟨p1, p2, p3, p4, p5⟩ := rightB_pos hf
  obtain ⟨q1, q2, q3, q4, q5⟩ := rightB_pos hf2
  have HB := Lib.hid hb
  have HA := Lib.hid (ha.below hb)
  have HA2 := Lib.hid (hb0.below hb)
  have HK1 := Lib.hid k1
  have HK2 := Lib.hid k2
  have P5 := Lib.hid p5
  have Q5 := Lib.hid q5
  have HE := Lib.hid heq
  have HR := Lib.hid (fun x : Over ((w.alloc (.cells #[.slice A n c] 40)).alloc (.cells #[.slice B m d] 40)) => gright_c A n c L F x.w1 ((ha.below hb).below x.h) hn hl)
  have HR2 := Lib.hid (fun x : Over ((w.alloc (.cells #[.slice A n c] 40)).alloc (.cells #[.slice B m d] 40)) => gright_c B m d M G x.w1 ((hb0.below hb).below x.h) hm hl2)
  have j1 := fun x : Over ((w.alloc (.cells #[.slice A n c] 40)).alloc (.cells #[.slice B m d] 40)) => x.cell k1
  have j2 := fun x : Over ((w.alloc (.cells #[.slice A n c] 40)).alloc (.cells #[.slice B m d] 40)) => x.cell k2
  obtain ⟨Ar, Cr, hr, _⟩ := ha.below hb
  obtain ⟨Br, Dr, hr2, _⟩ := hb0.below hb
  obtain ⟨ad, rfl, k3⟩ := hr.at_ (show 0 < n by omega)
  obtain ⟨bd, rfl, k4⟩ := hr2.at_ (show 0 < m by omega)
  rw [show ad.add 0 = ad by simp [Addr.add]] at k3
  rw [show bd.add 0 = bd by simp [Addr.add]] at k4
  have j3 := fun x : Over ((w.alloc (.cells #[.slice (some ad) n c] 40)).alloc (.cells #[.slice (some bd) m d] 40)) => x.cell k3
  have j4 := fun x : Over ((w.alloc (.cells #[.slice (some ad) n c] 40)).alloc (.cells #[.slice (some bd) m d] 40)) => x.cell k4
  have n1 : (0 : Int) < (n : Int) := by omega
  have n3 : (0 : Int) < (m : Int) := by omega
  have n4 : 0 < m := by omega
  have n2 : (((L 0 : Nat) : Int) != (m : Int)) = false := by rw [bne_eq_false_iff_eq]; omega
  rw [hf] at HR
  rw [hf2] at HR2
  clear ha hl hf hb hb0 hl2 hf2 k1 k2 k3 k4 hr hr2 p5 q5 heq
  go_enter Try.func31, Try.ntmps31
  go_wp2_with (fail)
  refine wp_region_over _ (by kernel_rfl) (by kernel_rfl) (Below.refl _ _) ?_
  repeat (go_big_quiet_step (first | (go_at_call 27; with_reducible exact Over.call _ (HR.out _)) | (go_at_call 27; with_reducible exact Over.call _ (HR2.out _))))
  refine wpQuiet_nil ?_
  rintro _ ⟨x, rfl⟩
  go_wp2_with (fail)
  have i1 := j1 x
  have i2 := j2 x
  have i3 := j3 x
  have i4 := j4 x
  clear j1 j2 j3 j4 HR HR2
  go_region_held3 (fun w' => w'.cell? ⟨w.heap.size, 0, none⟩ = some (.slice (some ad) n c) ∧ w'.cell? ⟨w.heap.size + 1, 0, none⟩ = some (.slice (some bd) m d) ∧ w'.cell? bd = some (.slice (Br 0) (M 0) (Dr 0))) (first | exact ⟨i1, i2, i4⟩ | exact ⟨cell_below hnb.out i1, cell_below hnb.out i2, cell_below hnb.out i4⟩) (first | (go_at_call 39; refine (made_new 57 (fun _ _ => rfl) #[.pointer (some ⟨w.heap.size + 1, 0, none⟩), .pointer (some ⟨w.heap.size, 0, none⟩)] (timesF F G m) n (M 0) _ (by omega) (by omega) (fun i j w' hi hj hbw => times1_c i j (some ad) (some bd) n c m d L M F G w.heap.size (w.heap.size + 1) w' hi (by omega) (by rw [P5.out i hi, HE.out]) (fun k hk => by rw [Q5.out k hk]; exact hj) (by omega) (by omega) (fun k hk => by rw [Q5.out k hk]; omega) (by omega) ((HA.out.below x.h.drew).below hbw) ((HA2.out.below x.h.drew).below hbw) (cell_below (below_then x.h.drew x.h.drew.size hbw) HK1.out) (cell_below (below_then x.h.drew x.h.drew.size hbw) HK2.out))).mono ?_; rintro e w5 ⟨v, rfl, hv⟩; have hnb := Lib.hid (show Below x.w1.heap.size x.w1 w5 from (Below.refl _ _).drew.trans hv.choose_spec.choose_spec.choose_spec.2.2.2.2.2.2)))
  all_goals go_wp2
  all_goals go_ret2
  all_goals exact ⟨v, rfl, hv.lower (below_then HB.out HB.out.size x.h.drew)⟩

theorem times_c (A B : Option Addr) (n c m d : Nat) (L M : Nat → Nat) (F G : Nat → Nat → Gf.E) (w : World) (ha : RdM w A n L F) (hb : RdM w B m M G) (hn : n ≤ 4611686018427387904) (hl : ∀ i, i < n → L i ≤ 4611686018427387904) (hm : m ≤ 4611686018427387904) (hl2 : ∀ i, i < m → M i ≤ 4611686018427387904) :
    Calls Try.prog 31 #[.slice A n c, .slice B m d] w fun e w' => ∃ v, e = .returned (.tuple #[v, .int .i64 (errOf (timesOk n m L M))]) ∧ MatOr (timesOk n m L M) w w' v n (M 0) (timesF F G m) := by
  unfold timesOk
  by_cases h1 : rightB n L = true
  · by_cases h2 : rightB m M = true
    · by_cases h3 : L 0 = m
      · rw [h1, h2, decide_eq_true h3]
        refine (times_yes A B n c m d L M F G w ha hb hn hl hm hl2 h1 h2 h3).mono ?_
        rintro e w' ⟨v, rfl, hv⟩
        exact ⟨v, rfl, hv⟩
      · rw [h1, h2, decide_eq_false h3]
        refine (times_no3 A B n c m d L M F G w ha hb hn hl hm hl2 h1 h2 h3).mono ?_
        rintro e w' ⟨rfl, hv⟩
        exact ⟨_, rfl, rfl, hv⟩
    · have h2' : rightB m M = false := by simpa using h2
      rw [h1, h2']
      refine (times_no2 A B n c m d L M F G w ha hb hn hl hm hl2 h1 h2').mono ?_
      rintro e w' ⟨rfl, hv⟩
      exact ⟨_, rfl, rfl, hv⟩
  · have h1' : rightB n L = false := by simpa using h1
    rw [h1']
    refine (times_no1 A B n c m d L M F G w ha hn hl h1').mono ?_
    rintro e w' ⟨rfl, hv⟩
    exact ⟨_, rfl, rfl, hv⟩
end Go.Proofs.Ytldndaimgfegnaa
