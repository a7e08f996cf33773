/- rs.alike, rs.missing. -/
import Derived.Test.YtccfnhocjiehnaaTold
import Derived.Test.YtccfnhocjiehnaaRight
namespace Go.Proofs.Ytccfnhocjiehnaa
open Go.RowKit
set_option linter.unusedVariables false
set_option linter.unusedSimpArgs false

set_option maxRecDepth 100000 in
set_option maxHeartbeats 1000000 in
theorem idxs_c (g : FuncId) (hent : ∀ args w, (callFunc g args).run Try.prog w = .ok (.enter g args) w) (cap : Array Value) (p : Nat → Bool) (A : Option Addr) (n c : Nat) (f : Nat → Value) (w : World)
    (hn : n ≤ 4611686018427387904) (hr : RdF w A n f) (hcall : ∀ i w', i < n → Drew w w' → Calls Try.prog g (#[f i] ++ cap) w' fun e w'' => e = .returned (.bool (p i)) ∧ Drew w w'') :
    Calls Try.prog 50 #[.slice A n c, .func (.func g) #[] cap] w fun e w' => ∃ r, e = .returned (.int .i64 r) ∧ IsFirst p n r ∧ Drew w w' := by
  have HR := Lib.hid hr
  have HC := Lib.hid hcall
  have HP : Hid (∀ i, i < 0 → p i = false) := Lib.hid (fun i hi => absurd hi (Nat.not_lt_zero _))
  clear hr hcall
  go_enter Try.func50, Try.ntmps50
  go_wp2
  go_loopg [8] n (fun kq v8 wr => ∃ k : Nat, k + kq = n ∧ v8 = .int .i64 (k : Int) ∧ Hid (∀ i, i < k → p i = false) ∧ Drew w wr)
  case atStart => exact ⟨0, by omega, rfl, HP, Drew.refl _⟩
  case round =>
    clear HP
    obtain ⟨k, hk, rfl, HP, ⟨q, rfl⟩⟩ := hrel
    by_cases hlt : k < n
    · obtain ⟨ad, rfl, hcell⟩ := HR.out.at_ hlt
      by_cases hp : p k = true
      · go_wp2_with (first | (refine (HC.out k _ hlt (Drew.step (Drew.refl _) _)).mono ?_; rintro e w5 ⟨rfl, ⟨q2, rfl⟩⟩))
        go_ret
        exact ⟨_, rfl, .inl ⟨k, hlt, hp, HP.out, rfl⟩, by repeat (first | exact Drew.refl _ | apply Drew.step)⟩
      · have hp' : p k = false := by simpa using hp
        clear hp
        go_wp2_with (first | (refine (HC.out k _ hlt (Drew.step (Drew.refl _) _)).mono ?_; rintro e w5 ⟨rfl, ⟨q2, rfl⟩⟩))
        go_roundg (n - (k + 1))
        case measure => omega
        case rel =>
          refine ⟨k + 1, by omega, by go_num, Lib.hid (fun i hi => ?_), by repeat (first | exact Drew.refl _ | apply Drew.step)⟩
          by_cases e : i = k
          · subst e; exact hp'
          · exact HP.out i (by omega)
    · obtain rfl : k = n := by omega
      go_wp2
      go_ret
      exact ⟨-1, rfl, .inr ⟨HP.out, rfl⟩, by repeat (first | exact Drew.refl _ | apply Drew.step)⟩


def noneB (L : Nat → Nat) (i : Nat) : Bool := decide (L i = 0)
theorem missing1_c (A : Option Addr) (n c : Nat) (w : World) (hn : n ≤ 4611686018427387904) : Calls Try.prog 51 (#[.slice A n c] ++ #[]) w fun e w' => e = .returned (.bool (decide (n = 0))) ∧ w = w' := by
  by_cases h : n = 0
  · subst h
    go_enter Try.func51, Try.ntmps51
    go_wp2
    go_ret
    exact ⟨rfl, rfl⟩
  · have c0 : ((n : Int) == 0) = false := by rw [beq_eq_false_iff_ne]; omega
    rw [decide_eq_false h]
    go_enter Try.func51, Try.ntmps51
    go_wp2
    go_ret
    exact ⟨rfl, rfl⟩
theorem missing_c (A : Option Addr) (n c : Nat) (L : Nat → Nat) (Ar : Nat → Option Addr) (Cr : Nat → Nat) (w : World) (hr : RdF w A n (fun i => .slice (Ar i) (L i) (Cr i))) (hn : n ≤ 4611686018427387904) (hl : ∀ i, i < n → L i ≤ 4611686018427387904) :
    Calls Try.prog 30 #[.slice A n c] w fun e w' => ∃ r, e = .returned (.int .i64 r) ∧ IsFirst (noneB L) n r ∧ Drew w w' := by
  have HI := Lib.hid (idxs_c 51 (fun _ _ => rfl) #[] (noneB L) A n c (fun i => .slice (Ar i) (L i) (Cr i)) w hn hr (fun i w' hi hd => (missing1_c (Ar i) (L i) (Cr i) w' (hl i hi)).mono fun e w'' h => ⟨h.1, h.2 ▸ hd⟩))
  clear hr hl
  go_enter Try.func30, Try.ntmps30
  go_wp2_with (go_at_call 50; refine HI.out.mono ?_; rintro e w' ⟨r, rfl, hf, hd⟩; replace hf := Lib.hid hf; replace hd := Lib.hid hd)
  go_ret
  exact ⟨r, rfl, hf.out, hd.out⟩

def maxL (L : Nat → Nat) : Nat → Nat
  | 0 => 0
  | k + 1 => max (maxL L k) (L k)
theorem maxL_le (L : Nat → Nat) {i : Nat} : ∀ {n : Nat}, i < n → L i ≤ maxL L n
  | n + 1, h => by
    simp only [maxL]
    by_cases e : i = n
    · subst e; exact Nat.le_max_right _ _
    · exact Nat.le_trans (maxL_le L (show i < n by omega)) (Nat.le_max_left _ _)
theorem maxL_is (L : Nat → Nat) : ∀ n, maxL L n = 0 ∨ ∃ i, i < n ∧ L i = maxL L n
  | 0 => .inl rfl
  | n + 1 => by
    simp only [maxL]
    by_cases e : L n ≤ maxL L n
    · rw [Nat.max_eq_left e]
      rcases maxL_is L n with h | ⟨i, h1, h2⟩
      · exact .inl h
      · exact .inr ⟨i, by omega, h2⟩
    · rw [Nat.max_eq_right (by omega)]
      exact .inr ⟨n, by omega, rfl⟩
theorem maxL_bound (L : Nat → Nat) {B : Nat} : ∀ {n : Nat}, (∀ i, i < n → L i ≤ B) → maxL L n ≤ B
  | 0, _ => Nat.zero_le _
  | n + 1, h => by
    simp only [maxL]
    exact Nat.max_le.2 ⟨maxL_bound L (fun i hi => h i (by omega)), h n (by omega)⟩
theorem maxL_mono (L : Nat → Nat) {k n : Nat} (h : k ≤ n) : maxL L k ≤ maxL L n := by
  rcases maxL_is L k with h0 | ⟨i, h1, h2⟩
  · omega
  · have := maxL_le L (show i < n by omega)
    omega
/-- All that are there are of one length. -/
def OneLen (L : Nat → Nat) (n : Nat) : Prop := ∀ i, i < n → L i = 0 ∨ L i = maxL L n
instance oneLenDec (L : Nat → Nat) (n : Nat) : Decidable (OneLen L n) := by unfold OneLen; infer_instance
def alikeB (n N : Nat) (L : Nat → Nat) : Bool := decide (n = N ∧ OneLen L n)
theorem oneLen_step {L : Nat → Nat} {k : Nat} (h : OneLen L k) (hk : L k = 0 ∨ maxL L k = 0 ∨ L k = maxL L k) : OneLen L (k + 1) := fun i hi => by
  simp only [maxL]
  by_cases e : i = k
  · subst e
    rcases hk with h0 | h0 | h0
    · exact .inl h0
    · right; rw [h0]; omega
    · right; omega
  · rcases h i (by omega) with h1 | h1
    · exact .inl h1
    · rcases hk with h0 | h0 | h0
      · right; rw [h0]; omega
      · left; omega
      · right; omega
theorem oneLen_not {L : Nat → Nat} {k n : Nat} (hk : k < n) (h1 : 0 < L k) (h2 : 0 < maxL L k) (h3 : L k ≠ maxL L k) : ¬ OneLen L n := fun h => by
  rcases maxL_is L k with h0 | ⟨i, hi, he⟩
  · omega
  · have a := h i (by omega)
    have b := h k hk
    omega

set_option maxRecDepth 100000 in
set_option maxHeartbeats 1000000 in
theorem alike_c (A : Option Addr) (n c : Nat) (N : Int) (L : Nat → Nat) (Ar : Nat → Option Addr) (Cr : Nat → Nat) (w : World) (hr : RdF w A n (fun i => .slice (Ar i) (L i) (Cr i))) (hn : n ≤ 4611686018427387904) (hl : ∀ i, i < n → L i ≤ 4611686018427387904) (hN : 0 ≤ N) :
    Calls Try.prog 29 #[.int .i64 N, .slice A n c] w fun e w' => w = w' ∧ ((alikeB n N.toNat L = true ∧ e = .returned (.int .i64 (maxL L n))) ∨ (alikeB n N.toNat L = false ∧ e = .panicked [gaveUp 1])) := by
  obtain ⟨N, rfl⟩ := Int.eq_ofNat_of_zero_le hN
  rw [Int.toNat_natCast]
  by_cases hne : n = N
  · subst hne
    have c0 : ((n : Int) != (n : Int)) = false := by rw [bne_eq_false_iff_eq]
    have HR := Lib.hid hr
    have HL := Lib.hid hl
    have HP : Hid (OneLen L 0) := Lib.hid (fun i hi => absurd hi (Nat.not_lt_zero _))
    clear hr hl hN
    go_enter Try.func29, Try.ntmps29
    go_wp2_with (fail)
    go_loopg [5, 15] n (fun kq v5 v15 wr => ∃ k : Nat, k + kq = n ∧ v15 = .int .i64 (k : Int) ∧ v5 = .int .i64 (maxL L k : Nat) ∧ Hid (OneLen L k) ∧ w = wr)
    case atStart => exact ⟨0, by omega, rfl, rfl, HP, rfl⟩
    case round =>
      clear HP
      obtain ⟨k, hk, rfl, rfl, HP, rfl⟩ := hrel
      by_cases hlt : k < n
      · obtain ⟨ad, rfl, hcell⟩ := HR.out.at_ hlt
        have hl1 := HL.out k hlt
        have hl2 := maxL_bound L (B := 4611686018427387904) (n := k) (fun i hi => HL.out i (by omega))
        have hm : (max ((maxL L k : Nat) : Int) ((L k : Nat) : Int)) = ((maxL L (k + 1) : Nat) : Int) := by simp only [maxL]; omega
        have k1 : (k : Int) < (n : Int) := by omega
        have k0 : (0 : Int) ≤ (k : Int) := by omega
        have HM := Lib.hid hm
        clear hm
        by_cases h1 : L k = 0
        · have d1 : ((L k : Nat) : Int) ≤ 0 := by omega
          have HS := Lib.hid (oneLen_step HP.out (.inl h1))
          clear h1
          go_wp2
          go_roundg (n - (k + 1))
          case measure => omega
          case rel => exact ⟨k + 1, by omega, by go_num, by have := HM.out; congr 1; omega, HS, rfl⟩
        · have d1 : (0 : Int) < ((L k : Nat) : Int) := by omega
          by_cases h2 : maxL L k = 0
          · have d2 : ((maxL L k : Nat) : Int) ≤ 0 := by omega
            have HS := Lib.hid (oneLen_step HP.out (.inr (.inl h2)))
            clear h1 h2
            go_wp2
            go_roundg (n - (k + 1))
            case measure => omega
            case rel => exact ⟨k + 1, by omega, by go_num, by have := HM.out; congr 1; omega, HS, rfl⟩
          · have d2 : (0 : Int) < ((maxL L k : Nat) : Int) := by omega
            by_cases h3 : L k = maxL L k
            · have d3 : (((L k : Nat) : Int) != ((maxL L k : Nat) : Int)) = false := by rw [bne_eq_false_iff_eq]; omega
              have HS := Lib.hid (oneLen_step HP.out (.inr (.inr h3)))
              clear h1 h2 h3
              go_wp2
              all_goals
                go_roundg (n - (k + 1))
                case measure => omega
                case rel => exact ⟨k + 1, by omega, by go_num, by have := HM.out; congr 1; omega, HS, rfl⟩
            · have d3 : (((L k : Nat) : Int) != ((maxL L k : Nat) : Int)) = true := by rw [bne_iff_ne]; omega
              have HF : Hid (alikeB n n L = false) := Lib.hid (decide_eq_false (fun h => oneLen_not hlt (by omega) (by omega) h3 h.2))
              clear h1 h2 h3
              go_wp2_with (go_at_call 31; refine (give_c 1 _).mono ?_; rintro e w' ⟨rfl, rfl⟩)
              exact ⟨rfl, rfl, .inr ⟨HF.out, rfl⟩⟩
      · obtain rfl : k = n := by omega
        have HF : Hid (alikeB k k L = true) := Lib.hid (decide_eq_true ⟨rfl, HP.out⟩)
        go_wp2
        go_ret
        exact ⟨rfl, .inl ⟨HF.out, rfl⟩⟩
  · have c0 : ((n : Int) != (N : Int)) = true := by rw [bne_iff_ne]; omega
    have hf : Hid (alikeB n N L = false) := Lib.hid (decide_eq_false (fun h => hne h.1))
    clear hr hl hne hN
    go_enter Try.func29, Try.ntmps29
    go_wp2_with (go_at_call 31; refine (give_c 1 _).mono ?_; rintro e w' ⟨rfl, rfl⟩)
    exact ⟨rfl, rfl, .inr ⟨hf.out, rfl⟩⟩
end Go.Proofs.Ytccfnhocjiehnaa
