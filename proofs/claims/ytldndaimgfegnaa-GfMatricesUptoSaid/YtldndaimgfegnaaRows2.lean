/- gf's Rows. -/
import Derived.Test.YtldndaimgfegnaaTimes
namespace Go.Proofs.Ytldndaimgfegnaa
open Go.RowKit
set_option linter.unusedVariables false
set_option linter.unusedSimpArgs false

set_option maxRecDepth 100000 in
set_option maxHeartbeats 1000000 in
theorem idxi_c (g : FuncId) (hent : ∀ args w, (callFunc g args).run Try.prog w = .ok (.enter g args) w) (cap : Array Value) (p : Nat → Bool) (A : Option Addr) (n c : Nat) (f : Nat → Value) (w : World)
    (hn : n ≤ 4611686018427387904) (hr : RdF w A n f) (hcall : ∀ i w', i < n → Drew w w' → Calls Try.prog g (#[f i] ++ cap) w' fun e w'' => e = .returned (.bool (p i)) ∧ Drew w w'') :
    Calls Try.prog 62 #[.slice A n c, .func (.func g) #[] cap] w fun e w' => ∃ r, e = .returned (.int .i64 r) ∧ IsFirst p n r ∧ Drew w w' := by
  have HR := Lib.hid hr
  have HC := Lib.hid hcall
  have HP : Hid (∀ i, i < 0 → p i = false) := Lib.hid (fun i hi => absurd hi (Nat.not_lt_zero _))
  clear hr hcall
  go_enter Try.func62, Try.ntmps62
  go_wp2
  go_loopg [8] n (fun kq v8 wr => ∃ k : Nat, k + kq = n ∧ v8 = .int .i64 (k : Int) ∧ Hid (∀ i, i < k → p i = false) ∧ Drew w wr)
  case atStart => exact ⟨0, by omega, rfl, HP, Drew.refl _⟩
  case round =>
    clear HP
    obtain ⟨k, hk, rfl, HP, ⟨q, rfl⟩⟩ := hrel
    by_cases hlt : k < n
    · obtain ⟨ad, rfl, hcell⟩ := HR.out.at_ hlt
      by_cases hp : p k = true
      · go_wp2_with (first | (refine (HC.out k _ hlt (Drew.step (Drew.refl _) _)).mono ?_; rintro e w5 ⟨rfl, ⟨q2, rfl⟩⟩))
        go_ret
        exact ⟨_, rfl, .inl ⟨k, hlt, hp, HP.out, rfl⟩, by repeat (first | exact Drew.refl _ | apply Drew.step)⟩
      · have hp' : p k = false := by simpa using hp
        clear hp
        go_wp2_with (first | (refine (HC.out k _ hlt (Drew.step (Drew.refl _) _)).mono ?_; rintro e w5 ⟨rfl, ⟨q2, rfl⟩⟩))
        go_roundg (n - (k + 1))
        case measure => omega
        case rel =>
          refine ⟨k + 1, by omega, by go_num, Lib.hid (fun i hi => ?_), by repeat (first | exact Drew.refl _ | apply Drew.step)⟩
          by_cases e : i = k
          · subst e; exact hp'
          · exact HP.out i (by omega)
    · obtain rfl : k = n := by omega
      go_wp2
      go_ret
      exact ⟨-1, rfl, .inr ⟨HP.out, rfl⟩, by repeat (first | exact Drew.refl _ | apply Drew.step)⟩

set_option maxRecDepth 100000 in
theorem hasi_c (g : FuncId) (hent : ∀ args w, (callFunc g args).run Try.prog w = .ok (.enter g args) w) (cap : Array Value) (p : Nat → Bool) (A : Option Addr) (n c : Nat) (f : Nat → Value) (w : World)
    (hn : n ≤ 4611686018427387904) (hr : RdF w A n f) (hcall : ∀ i w', i < n → Drew w w' → Calls Try.prog g (#[f i] ++ cap) w' fun e w'' => e = .returned (.bool (p i)) ∧ Drew w w'') :
    Calls Try.prog 45 #[.slice A n c, .func (.func g) #[] cap] w fun e w' => e = .returned (.bool (anyB p n)) ∧ Drew w w' := by
  have HI := Lib.hid (idxi_c g hent cap p A n c f w hn hr hcall)
  clear hr hcall
  go_enter Try.func45, Try.ntmps45
  go_wp2_with (first | (go_at_call 62; refine HI.out.mono ?_; rintro e w5 ⟨r, rfl, hf, hd⟩; replace hf := Lib.hid hf; replace hd := Lib.hid hd))
  go_ret
  refine ⟨ret_bool ?_, hd.out⟩
  rcases hf.out with ⟨i, hi, hp, _, rfl⟩ | ⟨h, rfl⟩
  · rw [anyB_true hi hp, decide_eq_true (by omega)]
  · rw [anyB_false h]; rfl


def rowBad (n : Nat) (x : Int) : Bool := decide (x < 0 ∨ (n : Int) ≤ x)
set_option maxRecDepth 100000 in
theorem rows1_c (x : Int) (A : Option Addr) (n c g0 : Nat) (w : World) (hn : n ≤ 4611686018427387904) (hcell : w.cell? ⟨g0, 0, none⟩ = some (.slice A n c)) :
    Calls Try.prog 46 (#[.int .i64 x] ++ #[.pointer (some ⟨g0, 0, none⟩)]) w fun e w' => e = .returned (.bool (rowBad n x)) ∧ w = w' := by
  by_cases h : x < 0
  · have e : rowBad n x = true := decide_eq_true (.inl h)
    rw [e]
    clear e
    go_enter Try.func46, Try.ntmps46
    go_wp2
    go_ret
    exact ⟨rfl, rfl⟩
  · have e : rowBad n x = decide ((n : Int) ≤ x) := by
      unfold rowBad
      rw [decide_eq_decide]; omega
    rw [e]
    have h' : 0 ≤ x := by omega
    clear e h
    go_enter Try.func46, Try.ntmps46
    go_wp2
    go_ret
    exact ⟨ret_bool (by rw [Bool.eq_iff_iff]; simp; omega), rfl⟩

set_option maxRecDepth 100000 in
set_option maxHeartbeats 1000000 in
theorem rows2_c (i j k : Nat) (A N : Option Addr) (n c kn kc : Nat) (L : Nat → Nat) (F : Nat → Nat → Gf.E) (f : Nat → Int) (g1 g2 : Nat) (w : World) (hi : i < kn) (hk : f i = (k : Int)) (hkn : k < n) (hj : j < L k) (hj2 : j ≤ 255) (hi2 : i ≤ 255) (hk2 : k ≤ 255) (hL : L k ≤ 255) (hn : n ≤ 255) (hkn2 : kn ≤ 255)
    (ha : RdM w A n L F) (hb : RdF w N kn (fun j => .int .i64 (f j))) (h1 : w.cell? ⟨g1, 0, none⟩ = some (.slice A n c)) (h2 : w.cell? ⟨g2, 0, none⟩ = some (.slice N kn kc)) :
    Calls Try.prog 47 (#[.int .i64 i, .int .i64 j] ++ #[.pointer (some ⟨g1, 0, none⟩), .pointer (some ⟨g2, 0, none⟩)]) w fun e w' => e = .returned (vb (F k j)) ∧ Drew w w' := by
  obtain ⟨Ar, Cr, hr, hrow⟩ := ha
  obtain ⟨nd, rfl, hc1⟩ := hb.at_ hi
  rw [hk] at hc1
  obtain ⟨ad, rfl, hc2⟩ := hr.at_ hkn
  obtain ⟨ai, hai, hc3⟩ := (hrow k hkn).2.at_ hj
  rw [hai] at hc2
  unfold vb at hc3
  have a1 : (i : Int) < (kn : Int) := by omega
  have a2 : (k : Int) < (n : Int) := by omega
  have a3 : (j : Int) < (L k : Int) := by omega
  have b1 : (0 : Int) ≤ (i : Int) := by omega
  have b2 : (0 : Int) ≤ (k : Int) := by omega
  have b3 : (0 : Int) ≤ (j : Int) := by omega
  clear hr hrow hb hai hk
  go_enter Try.func47, Try.ntmps47
  go_wp2
  go_quiet (fail)
  go_wp2
  go_ret
  exact ⟨rfl, by repeat (first | exact Drew.refl _ | apply Drew.step)⟩

def rowsOk (n kn : Nat) (L : Nat → Nat) (f : Nat → Int) : Bool := rightB n L && (decide (1 ≤ kn ∧ kn ≤ 255) && !anyB (fun i => rowBad n (f i)) kn)
def rowsF (F : Nat → Nat → Gf.E) (f : Nat → Int) : Nat → Nat → Gf.E := fun i j => F (f i).toNat j

set_option maxRecDepth 100000 in
set_option maxHeartbeats 4000000 in
theorem rows_no (A N : Option Addr) (n c kn kc : Nat) (L : Nat → Nat) (F : Nat → Nat → Gf.E) (f : Nat → Int) (w : World) (ha : RdM w A n L F) (hb0 : RdF w N kn (fun j => .int .i64 (f j))) (hn : n ≤ 4611686018427387904) (hl : ∀ i, i < n → L i ≤ 4611686018427387904) (hkn : kn ≤ 4611686018427387904)
    (h : rightB n L = false ∨ (rightB n L = true ∧ kn < 1) ∨ (rightB n L = true ∧ 255 < kn) ∨ (rightB n L = true ∧ 1 ≤ kn ∧ kn ≤ 255 ∧ anyB (fun i => rowBad n (f i)) kn = true)) :
    Calls Try.prog 29 #[.slice A n c, .slice N kn kc] w fun e w' => e = .returned (.tuple #[.slice none 0 0, .int .i64 1]) ∧ Below w.heap.size w w' := by
  obtain ⟨k1, k2, hb⟩ := boxes2 w (.slice A n c) (.slice N kn kc) 40 50 rfl rfl
  have HB := Lib.hid hb
  have HK1 := Lib.hid k1
  have HK2 := Lib.hid k2
  have HI := Lib.hid (hb0.below hb)
  have HR := Lib.hid (gright_c A n c L F _ (ha.below hb) hn hl)
  clear ha hl hb hb0
  rcases h with h | ⟨h, h2⟩ | ⟨h, h2⟩ | ⟨h, h2, h3, h4⟩
  · rw [h] at HR
    clear h k2
    go_enter Try.func29, Try.ntmps29
    go_wp2_with (first | (go_at_call 27; refine HR.out.mono ?_; rintro e w3 ⟨rfl, hb3⟩; replace hb3 := Lib.hid hb3))
    go_ret2
    exact ⟨rfl, below_then HB.out HB.out.size hb3.out⟩
  · rw [h] at HR
    clear h k2
    go_enter Try.func29, Try.ntmps29
    go_wp2_with (first | (go_at_call 27; refine HR.out.mono ?_; rintro e w3 ⟨rfl, hb3⟩; have k3 := cell_below hb3 HK2.out; replace hb3 := Lib.hid hb3))
    go_ret2
    exact ⟨rfl, below_then HB.out HB.out.size hb3.out⟩
  · rw [h] at HR
    clear h k2
    go_enter Try.func29, Try.ntmps29
    go_wp2_with (first | (go_at_call 27; refine HR.out.mono ?_; rintro e w3 ⟨rfl, hb3⟩; have k3 := cell_below hb3 HK2.out; replace hb3 := Lib.hid hb3))
    go_ret2
    exact ⟨rfl, below_then HB.out HB.out.size hb3.out⟩
  · rw [h] at HR
    have HF := Lib.hid h4
    clear h k2 h4
    go_enter Try.func29, Try.ntmps29
    go_wp2_with (first | (go_at_call 27; refine HR.out.mono ?_; rintro e w3 ⟨rfl, hb3⟩; have k3 := cell_below hb3 HK2.out; replace hb3 := Lib.hid hb3) | (go_at_call 45; refine (hasi_c 46 (fun _ _ => rfl) #[.pointer (some ⟨w.heap.size, 0, none⟩)] (fun i => rowBad n (f i)) N kn kc (fun j => .int .i64 (f j)) _ (by omega) (HI.out.below hb3.out) (fun i w' hi hd => (rows1_c (f i) A n c w.heap.size w' hn (hd.cell (cell_below hb3.out HK1.out))).mono fun e w5 h => ⟨h.1, h.2 ▸ hd⟩)).mono ?_; rintro e w5 ⟨rfl, ⟨q2, rfl⟩⟩; rw [HF.out]))
    go_ret2
    exact ⟨rfl, below_drewN (below_then HB.out HB.out.size hb3.out) _⟩

set_option maxRecDepth 100000 in
set_option maxHeartbeats 4000000 in
theorem rows_yes (A N : Option Addr) (n c kn kc : Nat) (L : Nat → Nat) (F : Nat → Nat → Gf.E) (f : Nat → Int) (w : World) (ha : RdM w A n L F) (hb0 : RdF w N kn (fun j => .int .i64 (f j))) (hn : n ≤ 4611686018427387904) (hl : ∀ i, i < n → L i ≤ 4611686018427387904)
    (h : rightB n L = true) (h2 : 1 ≤ kn) (h3 : kn ≤ 255) (h4 : anyB (fun i => rowBad n (f i)) kn = false) :
    Calls Try.prog 29 #[.slice A n c, .slice N kn kc] w fun e w' => ∃ v, e = .returned (.tuple #[v, .int .i64 0]) ∧ NewMat w w' v kn (L 0) (rowsF F f) := by
  obtain ⟨k1, k2, hb⟩ := boxes2 w (.slice A n c) (.slice N kn kc) 40 50 rfl rfl
  obtain ⟨p1, p2, p3, p4, p5⟩ := rightB_pos h
  have hbad : ∀ i, i < kn → 0 ≤ f i ∧ f i < (n : Int) := fun i hi => by
    have : ¬ (∃ i, i < kn ∧ rowBad n (f i) = true) := of_decide_eq_false h4
    have h5 : ¬ rowBad n (f i) = true := fun hp => this ⟨i, hi, hp⟩
    unfold rowBad at h5
    rw [decide_eq_true_iff] at h5
    omega
  have HB := Lib.hid hb
  have HK1 := Lib.hid k1
  have HK2 := Lib.hid k2
  have P5 := Lib.hid p5
  have HBD := Lib.hid hbad
  have HA := Lib.hid (ha.below hb)
  have HI := Lib.hid (hb0.below hb)
  have HR := Lib.hid (gright_c A n c L F _ (ha.below hb) hn hl)
  obtain ⟨Ar, Cr, hr, _⟩ := ha.below hb
  obtain ⟨ad, rfl, k4⟩ := hr.at_ (show 0 < n by omega)
  rw [show ad.add 0 = ad by simp [Addr.add]] at k4
  have HK4 := Lib.hid k4
  rw [h] at HR
  have HF := Lib.hid h4
  have n1 : (0 : Int) < (n : Int) := by omega
  have n2 : 0 < n := by omega
  clear ha hl hb hb0 h h4 k1 k2 k4 hr p5 hbad
  go_enter Try.func29, Try.ntmps29
  go_wp2_with (first | (go_at_call 27; refine HR.out.mono ?_; rintro e w3 ⟨rfl, hb3⟩; have k3 := cell_below hb3 HK2.out; replace hb3 := Lib.hid hb3) | (go_at_call 45; refine (hasi_c 46 (fun _ _ => rfl) #[.pointer (some ⟨w.heap.size, 0, none⟩)] (fun i => rowBad n (f i)) N kn kc (fun j => .int .i64 (f j)) _ (by omega) (HI.out.below hb3.out) (fun i w' hi hd => (rows1_c (f i) (some ad) n c w.heap.size w' hn (hd.cell (cell_below hb3.out HK1.out))).mono fun e w5 h => ⟨h.1, h.2 ▸ hd⟩)).mono ?_; rintro e w5 ⟨rfl, ⟨q2, rfl⟩⟩; rw [HF.out]))
  have i1 := cell_below hb3.out HK1.out
  have i2 := cell_below hb3.out HK2.out
  have i4 := cell_below hb3.out HK4.out
  go_region_held3 (fun w' => w'.cell? ⟨w.heap.size, 0, none⟩ = some (.slice (some ad) n c) ∧ w'.cell? ⟨w.heap.size + 1, 0, none⟩ = some (.slice N kn kc) ∧ w'.cell? ad = some (.slice (Ar 0) (L 0) (Cr 0))) (first | exact ⟨i1, i2, i4⟩ | exact ⟨cell_below hnb.out i1, cell_below hnb.out i2, cell_below hnb.out i4⟩) (first | (go_at_call 39; refine (made_new 47 (fun _ _ => rfl) #[.pointer (some ⟨w.heap.size, 0, none⟩), .pointer (some ⟨w.heap.size + 1, 0, none⟩)] (rowsF F f) kn (L 0) _ (by omega) (by omega) (fun i j w' hi hj hbw => rows2_c i j (f i).toNat (some ad) N n c kn kc L F f w.heap.size (w.heap.size + 1) w' hi (by have := HBD.out i hi; omega) (by have := HBD.out i hi; omega) (by rw [P5.out _ (by have := HBD.out i hi; omega)]; exact hj) (by omega) (by omega) (by have := HBD.out i hi; omega) (by rw [P5.out _ (by have := HBD.out i hi; omega)]; omega) (by omega) (by omega) ((HA.out.below (below_drewN hb3.out _)).below hbw) ((HI.out.below (below_drewN hb3.out _)).below hbw) (cell_below hbw (cell_below (below_drewN hb3.out _) HK1.out)) (cell_below hbw (cell_below (below_drewN hb3.out _) HK2.out)))).mono ?_; rintro e w6 ⟨v, rfl, hv⟩; have hnb := Lib.hid (show Below w3.heap.size w3 w6 from (below_drewN (Below.refl _ _) _).trans hv.choose_spec.choose_spec.choose_spec.2.2.2.2.2.2)))
  all_goals go_wp2
  all_goals go_ret2
  all_goals exact ⟨v, rfl, hv.lower (below_drewN (below_then HB.out HB.out.size hb3.out) _)⟩

theorem rows_c (A N : Option Addr) (n c kn kc : Nat) (L : Nat → Nat) (F : Nat → Nat → Gf.E) (f : Nat → Int) (w : World) (ha : RdM w A n L F) (hb : RdF w N kn (fun j => .int .i64 (f j))) (hn : n ≤ 4611686018427387904) (hl : ∀ i, i < n → L i ≤ 4611686018427387904) (hkn : kn ≤ 4611686018427387904) :
    Calls Try.prog 29 #[.slice A n c, .slice N kn kc] w fun e w' => ∃ v, e = .returned (.tuple #[v, .int .i64 (errOf (rowsOk n kn L f))]) ∧ MatOr (rowsOk n kn L f) w w' v kn (L 0) (rowsF F f) := by
  by_cases h : rowsOk n kn L f = true
  · rw [h]
    unfold rowsOk at h
    simp only [Bool.and_eq_true, decide_eq_true_eq, Bool.not_eq_true'] at h
    refine (rows_yes A N n c kn kc L F f w ha hb hn hl h.1 h.2.1.1 h.2.1.2 h.2.2).mono ?_
    rintro e w' ⟨v, rfl, hv⟩
    exact ⟨v, rfl, hv⟩
  · have h' : rowsOk n kn L f = false := by simpa using h
    rw [h']
    refine (rows_no A N n c kn kc L F f w ha hb hn hl hkn ?_).mono ?_
    · unfold rowsOk at h'
      cases h1 : rightB n L with
      | false => exact .inl rfl
      | true =>
        rw [h1, Bool.true_and] at h'
        by_cases h2 : kn < 1
        · exact .inr (.inl ⟨rfl, h2⟩)
        · by_cases h3 : 255 < kn
          · exact .inr (.inr (.inl ⟨rfl, h3⟩))
          · rw [decide_eq_true (show 1 ≤ kn ∧ kn ≤ 255 by omega), Bool.true_and] at h'
            exact .inr (.inr (.inr ⟨rfl, by omega, by omega, by simpa using h'⟩))
    · rintro e w' ⟨rfl, hv⟩
      exact ⟨_, rfl, rfl, hv⟩
end Go.Proofs.Ytldndaimgfegnaa
