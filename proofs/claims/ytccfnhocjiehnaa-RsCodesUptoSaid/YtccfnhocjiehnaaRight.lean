/- slices.IndexFunc and ContainsFunc over a matrix's rows; gf.Right and the reference's Right. -/
import Derived.Test.YtccfnhocjiehnaaShape
import Derived.Test.YtccfnhocjiehnaaSame
namespace Go.Proofs.Ytccfnhocjiehnaa
open Go.RowKit
set_option linter.unusedVariables false
set_option linter.unusedSimpArgs false

/-- r is the number of the first one of n that p tells; -1: none is. -/
def IsFirst (p : Nat → Bool) (n : Nat) (r : Int) : Prop :=
  (∃ i, i < n ∧ p i = true ∧ (∀ j, j < i → p j = false) ∧ r = (i : Int)) ∨ ((∀ i, i < n → p i = false) ∧ r = -1)

set_option maxRecDepth 100000 in
set_option maxHeartbeats 1000000 in
theorem idx_c (g : FuncId) (hent : ∀ args w, (callFunc g args).run Try.prog w = .ok (.enter g args) w) (cap : Array Value) (p : Nat → Bool) (A : Option Addr) (n c : Nat) (f : Nat → Value) (w : World)
    (hn : n ≤ 4611686018427387904) (hr : RdF w A n f) (hcall : ∀ i w', i < n → Drew w w' → Calls Try.prog g (#[f i] ++ cap) w' fun e w'' => e = .returned (.bool (p i)) ∧ Drew w w'') :
    Calls Try.prog 66 #[.slice A n c, .func (.func g) #[] cap] w fun e w' => ∃ r, e = .returned (.int .i64 r) ∧ IsFirst p n r ∧ Drew w w' := by
  have HR := Lib.hid hr
  have HC := Lib.hid hcall
  have HP : Hid (∀ i, i < 0 → p i = false) := Lib.hid (fun i hi => absurd hi (Nat.not_lt_zero _))
  clear hr hcall
  go_enter Try.func66, Try.ntmps66
  go_wp2
  go_loopg [8] n (fun kq v8 wr => ∃ k : Nat, k + kq = n ∧ v8 = .int .i64 (k : Int) ∧ Hid (∀ i, i < k → p i = false) ∧ Drew w wr)
  case atStart => exact ⟨0, by omega, rfl, HP, Drew.refl _⟩
  case round =>
    clear HP
    obtain ⟨k, hk, rfl, HP, ⟨q, rfl⟩⟩ := hrel
    by_cases hlt : k < n
    · obtain ⟨ad, rfl, hcell⟩ := HR.out.at_ hlt
      by_cases hp : p k = true
      · go_wp2_with (first | (refine (HC.out k _ hlt (Drew.step (Drew.refl _) _)).mono ?_; rintro e w5 ⟨rfl, ⟨q2, rfl⟩⟩))
        go_ret
        exact ⟨_, rfl, .inl ⟨k, hlt, hp, HP.out, rfl⟩, by repeat (first | exact Drew.refl _ | apply Drew.step)⟩
      · have hp' : p k = false := by simpa using hp
        clear hp
        go_wp2_with (first | (refine (HC.out k _ hlt (Drew.step (Drew.refl _) _)).mono ?_; rintro e w5 ⟨rfl, ⟨q2, rfl⟩⟩))
        go_roundg (n - (k + 1))
        case measure => omega
        case rel =>
          refine ⟨k + 1, by omega, by go_num, Lib.hid (fun i hi => ?_), by repeat (first | exact Drew.refl _ | apply Drew.step)⟩
          by_cases e : i = k
          · subst e; exact hp'
          · exact HP.out i (by omega)
    · obtain rfl : k = n := by omega
      go_wp2
      go_ret
      exact ⟨-1, rfl, .inr ⟨HP.out, rfl⟩, by repeat (first | exact Drew.refl _ | apply Drew.step)⟩

def anyB (p : Nat → Bool) (n : Nat) : Bool := decide (∃ i, i < n ∧ p i = true)
theorem anyB_true {p : Nat → Bool} {n i : Nat} (h : i < n) (hp : p i = true) : anyB p n = true := decide_eq_true ⟨i, h, hp⟩
theorem anyB_false {p : Nat → Bool} {n : Nat} (h : ∀ i, i < n → p i = false) : anyB p n = false := decide_eq_false (fun ⟨i, hi, hp⟩ => by rw [h i hi] at hp; cases hp)

set_option maxRecDepth 100000 in
theorem has_c (g : FuncId) (hent : ∀ args w, (callFunc g args).run Try.prog w = .ok (.enter g args) w) (cap : Array Value) (p : Nat → Bool) (A : Option Addr) (n c : Nat) (f : Nat → Value) (w : World)
    (hn : n ≤ 4611686018427387904) (hr : RdF w A n f) (hcall : ∀ i w', i < n → Drew w w' → Calls Try.prog g (#[f i] ++ cap) w' fun e w'' => e = .returned (.bool (p i)) ∧ Drew w w'') :
    Calls Try.prog 78 #[.slice A n c, .func (.func g) #[] cap] w fun e w' => e = .returned (.bool (anyB p n)) ∧ Drew w w' := by
  have HI := Lib.hid (idx_c g hent cap p A n c f w hn hr hcall)
  clear hr hcall
  go_enter Try.func78, Try.ntmps78
  go_wp2_with (first | (go_at_call 66; refine HI.out.mono ?_; rintro e w5 ⟨r, rfl, hf, hd⟩; replace hf := Lib.hid hf; replace hd := Lib.hid hd))
  go_ret
  refine ⟨ret_bool ?_, hd.out⟩
  rcases hf.out with ⟨i, hi, hp, _, rfl⟩ | ⟨h, rfl⟩
  · rw [anyB_true hi hp, decide_eq_true (by omega)]
  · rw [anyB_false h]; rfl

/-! ### Right -/
def rightB (n : Nat) (L : Nat → Nat) : Bool := decide (1 ≤ n ∧ n ≤ 255 ∧ 1 ≤ L 0 ∧ L 0 ≤ 255 ∧ ∀ i, i < n → L i = L 0)
theorem box_below (w : World) (o : Obj) : Below w.heap.size w (w.alloc o) := (Below.refl _ _).alloc (Nat.le_refl _) o

set_option maxRecDepth 100000 in
set_option maxHeartbeats 1000000 in
theorem right1_c (A Ai : Option Addr) (n c Li Ci : Nat) (L : Nat → Nat) (g0 : Nat) (f : Nat → Value) (Ar : Nat → Option Addr) (Cr : Nat → Nat) (w : World) (hn : 0 < n) (hr : RdF w A n (fun i => .slice (Ar i) (L i) (Cr i)))
    (hcell : w.cell? ⟨g0, 0, none⟩ = some (.slice A n c)) :
    Calls Try.prog 79 (#[.slice Ai Li Ci] ++ #[.pointer (some ⟨g0, 0, none⟩)]) w fun e w' => e = .returned (.bool (!decide (Li = L 0))) ∧ Drew w w' := by
  obtain ⟨ad, rfl, hc0⟩ := hr.at_ hn
  have hn1 : (0 : Int) < (n : Int) := by omega
  have hc1 : w.cell? (ad.add 0) = some (.slice (Ar 0) (L 0) (Cr 0)) := hc0
  have e0 : ad.add 0 = ad := by simp [Addr.add]
  rw [e0] at hc0
  clear hr e0
  go_enter Try.func79, Try.ntmps79
  go_wp2
  go_ret
  exact ⟨ret_bool (by rw [Bool.eq_iff_iff, bne_iff_ne, Bool.not_eq_true', decide_eq_false_iff_not]; omega), by repeat (first | exact Drew.refl _ | apply Drew.step)⟩

set_option maxRecDepth 100000 in
set_option maxHeartbeats 2000000 in
theorem gright_c (A : Option Addr) (n c : Nat) (L : Nat → Nat) (F : Nat → Nat → Gf.E) (w : World) (hm : RdM w A n L F) (hn : n ≤ 4611686018427387904) (hl : ∀ i, i < n → L i ≤ 4611686018427387904) :
    Calls Try.prog 63 #[.slice A n c] w fun e w' => e = .returned (.bool (rightB n L)) ∧ Below w.heap.size w w' := by
  have HB := Lib.hid (box_below w (.cells #[.slice A n c] 55))
  have hcell : (w.alloc (.cells #[.slice A n c] 55)).cell? ⟨w.heap.size, 0, none⟩ = some (.slice A n c) := by rw [World.cell?_alloc_at _ _ _ _ rfl]; rfl
  have HC := Lib.hid hcell
  clear hcell
  by_cases h1 : n = 0
  · subst h1
    have e : rightB 0 L = false := decide_eq_false (by omega)
    rw [e]
    clear hm hl e
    go_enter Try.func63, Try.ntmps63
    go_wp2
    go_ret
    exact ⟨rfl, HB.out⟩
  · by_cases h2 : 255 < n
    · have e : rightB n L = false := decide_eq_false (by omega)
      rw [e]
      clear hm hl e
      go_enter Try.func63, Try.ntmps63
      go_wp2
      go_ret
      exact ⟨rfl, HB.out⟩
    · have h1' : 1 ≤ n := by omega
      have h2' : n ≤ 255 := by omega
      clear h1 h2
      obtain ⟨Ar, Cr, hr, hrow⟩ := hm
      have hr1 := hr.below HB.out
      obtain ⟨ad, rfl, hc0⟩ := hr1.at_ (show 0 < n by omega)
      have e0 : ad.add 0 = ad := by simp [Addr.add]
      rw [e0] at hc0
      have hn1 : (0 : Int) < (n : Int) := by omega
      have hl0 := hl 0 (by omega)
      have HR := Lib.hid hr1
      clear hr hr1 hrow hl e0
      by_cases h3 : L 0 < 1
      · have e : rightB n L = false := decide_eq_false (by omega)
        rw [e]
        clear e
        go_enter Try.func63, Try.ntmps63
        go_wp2
        go_ret
        exact ⟨rfl, HB.out⟩
      · replace h3 : 1 ≤ L 0 := by omega
        by_cases h4 : 255 < L 0
        · have e : rightB n L = false := decide_eq_false (by omega)
          rw [e]
          clear e
          go_enter Try.func63, Try.ntmps63
          go_wp2
          go_ret
          exact ⟨rfl, HB.out⟩
        · replace h4 : L 0 ≤ 255 := by omega
          have e : rightB n L = !anyB (fun i => !decide (L i = L 0)) n := by
            by_cases ha : ∃ i, i < n ∧ L i ≠ L 0
            · obtain ⟨i, hi, hne⟩ := ha
              rw [anyB_true (p := fun i => !decide (L i = L 0)) hi (by rw [Bool.not_eq_true', decide_eq_false_iff_not]; exact hne)]
              exact decide_eq_false (fun h => hne (h.2.2.2.2 i hi))
            · have ha' : ∀ i, i < n → L i = L 0 := fun i hi => Classical.byContradiction (fun hne => ha ⟨i, hi, hne⟩)
              rw [anyB_false (p := fun i => !decide (L i = L 0)) (fun i hi => by rw [Bool.not_eq_false', decide_eq_true_iff]; exact ha' i hi)]
              exact decide_eq_true ⟨by omega, by omega, by omega, by omega, ha'⟩
          rw [e]
          have HH := Lib.hid (has_c 79 (fun _ _ => rfl) #[.pointer (some ⟨w.heap.size, 0, none⟩)] (fun i => !decide (L i = L 0)) (some ad) n c (fun i => .slice (Ar i) (L i) (Cr i)) (w.alloc (.cells #[.slice (some ad) n c] 55)) hn HR.out
            (fun i w' hi hd => by
              obtain ⟨q, rfl⟩ := hd
              refine (right1_c (some ad) (Ar i) n c (L i) (Cr i) L w.heap.size (fun _ => undef) Ar Cr _ (by omega) (HR.out.drewN q) HC.out).mono ?_
              rintro e w5 ⟨rfl, ⟨q2, rfl⟩⟩
              exact ⟨rfl, by repeat (first | exact Drew.refl _ | apply Drew.step)⟩))
          clear e
          go_enter Try.func63, Try.ntmps63
          go_wp2_with (first | (go_at_call 78; refine HH.out.mono ?_; rintro e w5 ⟨rfl, ⟨q2, rfl⟩⟩))
          go_ret
          exact ⟨rfl, below_drewN HB.out _⟩

set_option maxRecDepth 100000 in
set_option maxHeartbeats 2000000 in
theorem rright_c (A : Option Addr) (n c : Nat) (L : Nat → Nat) (F : Nat → Nat → Gf.E) (w : World) (hm : RdM w A n L F) (hn : n ≤ 4611686018427387904) (hl : ∀ i, i < n → L i ≤ 4611686018427387904) :
    Calls Try.prog 75 #[.slice A n c] w fun e w' => e = .returned (.bool (rightB n L)) ∧ Drew w w' := by
  by_cases h1 : n = 0
  · subst h1
    have e : rightB 0 L = false := decide_eq_false (by omega)
    rw [e]
    clear hm hl e
    go_enter Try.func75, Try.ntmps75
    go_wp2
    go_ret
    exact ⟨rfl, Drew.refl _⟩
  · by_cases h2 : 255 < n
    · have e : rightB n L = false := decide_eq_false (by omega)
      rw [e]
      clear hm hl e
      go_enter Try.func75, Try.ntmps75
      go_wp2
      go_ret
      exact ⟨rfl, Drew.refl _⟩
    · have h1' : 1 ≤ n := by omega
      have h2' : n ≤ 255 := by omega
      clear h1 h2
      obtain ⟨Ar, Cr, hr, hrow⟩ := hm
      obtain ⟨ad, rfl, hc0⟩ := hr.at_ (show 0 < n by omega)
      have e0 : ad.add 0 = ad := by simp [Addr.add]
      rw [e0] at hc0
      have hn1 : (0 : Int) < (n : Int) := by omega
      have hl0 := hl 0 (by omega)
      have HR := Lib.hid hr
      have HL := Lib.hid hl
      clear hr hrow hl e0
      by_cases h3 : L 0 < 1
      · have e : rightB n L = false := decide_eq_false (by omega)
        rw [e]
        clear e
        go_enter Try.func75, Try.ntmps75
        go_wp2
        go_ret
        exact ⟨rfl, Drew.refl _⟩
      · replace h3 : 1 ≤ L 0 := by omega
        by_cases h4 : 255 < L 0
        · have e : rightB n L = false := decide_eq_false (by omega)
          rw [e]
          clear e
          go_enter Try.func75, Try.ntmps75
          go_wp2
          go_ret
          exact ⟨rfl, Drew.refl _⟩
        · have HP : Hid (∀ i, i < 1 → L i = L 0) := Lib.hid (fun i hi => by rw [show i = 0 by omega])
          go_enter Try.func75, Try.ntmps75
          go_wp2
          go_loopg [3] (n - 1) (fun kq v3 wr => ∃ k : Nat, k + kq = n ∧ 1 ≤ k ∧ v3 = .int .i64 (k : Int) ∧ Hid (∀ i, i < k → L i = L 0) ∧ Drew w wr)
          case atStart => exact ⟨1, by omega, Nat.le_refl _, rfl, HP, Drew.refl _⟩
          case round =>
            clear HP
            obtain ⟨k, hk, hk1, rfl, HP, ⟨q, rfl⟩⟩ := hrel
            by_cases hlt : k < n
            · obtain ⟨ad', ead, hck⟩ := HR.out.at_ hlt
              obtain rfl : ad = ad' := by injection ead
              clear ead
              have hlk := HL.out k hlt
              have hlt' : (k : Int) < (n : Int) := by omega
              have hk0 : (0 : Int) ≤ (k : Int) := by omega
              by_cases he : L k = L 0
              · have c1 : (((L k : Nat) : Int) != ((L 0 : Nat) : Int)) = false := by rw [he, bne_eq_false_iff_eq]
                have HE := Lib.hid he
                clear he
                go_wp2
                go_quiet (fail)
                go_wp2
                go_roundg (n - (k + 1))
                case measure => omega
                case rel =>
                  refine ⟨k + 1, by omega, by omega, by go_num, Lib.hid (fun i hi => ?_), by repeat (first | exact Drew.refl _ | apply Drew.step)⟩
                  by_cases e : i = k
                  · subst e; exact HE.out
                  · exact HP.out i (by omega)
              · have c1 : (((L k : Nat) : Int) != ((L 0 : Nat) : Int)) = true := by rw [bne_iff_ne]; omega
                have HF : Hid (rightB n L = false) := Lib.hid (decide_eq_false (fun h => he (h.2.2.2.2 k hlt)))
                clear he
                go_wp2
                go_quiet (fail)
                go_wp2
                go_ret
                exact ⟨by rw [HF.out]; rfl, by repeat (first | exact Drew.refl _ | apply Drew.step)⟩
            · obtain rfl : k = n := by omega
              have HF : Hid (rightB k L = true) := Lib.hid (decide_eq_true ⟨h1', h2', h3, by omega, HP.out⟩)
              go_wp2
              go_ret
              exact ⟨by rw [HF.out]; rfl, by repeat (first | exact Drew.refl _ | apply Drew.step)⟩
end Go.Proofs.Ytccfnhocjiehnaa
