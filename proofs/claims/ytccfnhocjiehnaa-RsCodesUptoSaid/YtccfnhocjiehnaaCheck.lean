/- slices.Equal, slices.EqualFunc of shards; rs.Check. -/
import Derived.Test.YtccfnhocjiehnaaEncode
import Derived.Test.YtccfnhocjiehnaaGj
namespace Go.Proofs.Ytccfnhocjiehnaa
open Go.RowKit
set_option linter.unusedVariables false
set_option linter.unusedSimpArgs false

def eqRow (n m : Nat) (f g : Nat → Gf.E) : Bool := decide (n = m ∧ ∀ j, j < n → f j = g j)
set_option maxRecDepth 100000 in
set_option maxHeartbeats 1000000 in
theorem equal_c (A B : Option Addr) (n m c d : Nat) (f g : Nat → Gf.E) (w : World) (ha : RdB w A n f) (hb : RdB w B m g) (hn : n ≤ 1048576) (hm : m ≤ 1048576) :
    Calls Try.prog 33 #[.slice A n c, .slice B m d] w fun e w' => e = .returned (.bool (eqRow n m f g)) ∧ Drew w w' := by
  by_cases hne : n = m
  · subst hne
    have c0 : ((n : Int) != (n : Int)) = false := by rw [bne_eq_false_iff_eq]
    have HA := Lib.hid ha
    have HB := Lib.hid hb
    have HP : Hid (∀ j, j < 0 → f j = g j) := Lib.hid (fun i hi => absurd hi (Nat.not_lt_zero _))
    clear ha hb hm
    go_enter Try.func33, Try.ntmps33
    go_wp2_with (fail)
    go_loopg [13] n (fun kq v13 wr => ∃ k : Nat, k + kq = n ∧ v13 = .int .i64 (k : Int) ∧ Hid (∀ j, j < k → f j = g j) ∧ Drew w wr)
    case atStart => exact ⟨0, by omega, rfl, HP, Drew.refl _⟩
    case round =>
      clear HP
      obtain ⟨k, hk, rfl, HP, ⟨q, rfl⟩⟩ := hrel
      by_cases hlt : k < n
      · obtain ⟨ad, rfl, f1⟩ := HA.out.at_ hlt
        obtain ⟨bd, rfl, f2⟩ := HB.out.at_ hlt
        unfold vb at f1 f2
        have k1 : (k : Int) < (n : Int) := by omega
        have k0 : (0 : Int) ≤ (k : Int) := by omega
        by_cases he : f k = g k
        · have c1 : (((f k).val : Int) != ((g k).val : Int)) = false := by rw [bne_eq_false_iff_eq, he]
          have HE := Lib.hid he
          clear he
          go_wp2_with (fail)
          go_quiet (fail)
          go_wp2_with (fail)
          go_roundg (n - (k + 1))
          case measure => omega
          case rel =>
            refine ⟨k + 1, by omega, by go_num, Lib.hid (fun i hi => ?_), by repeat (first | exact Drew.refl _ | apply Drew.step)⟩
            by_cases e : i = k
            · subst e; exact HE.out
            · exact HP.out i (by omega)
        · have c1 : (((f k).val : Int) != ((g k).val : Int)) = true := by
            rw [bne_iff_ne]
            intro e
            exact he (Fin.ext (by omega))
          have HF : Hid (eqRow n n f g = false) := Lib.hid (decide_eq_false (fun h => he (h.2 k hlt)))
          clear he
          go_wp2_with (fail)
          go_quiet (fail)
          go_wp2_with (fail)
          go_ret
          exact ⟨by rw [HF.out]; rfl, by repeat (first | exact Drew.refl _ | apply Drew.step)⟩
      · obtain rfl : k = n := by omega
        have HF : Hid (eqRow k k f g = true) := Lib.hid (decide_eq_true ⟨rfl, HP.out⟩)
        go_wp2_with (fail)
        go_ret
        exact ⟨by rw [HF.out]; rfl, by repeat (first | exact Drew.refl _ | apply Drew.step)⟩
  · have c0 : ((n : Int) != (m : Int)) = true := by rw [bne_iff_ne]; omega
    have hf : eqRow n m f g = false := decide_eq_false (fun h => hne h.1)
    rw [hf]
    clear ha hb hne hf
    go_enter Try.func33, Try.ntmps33
    go_wp2
    go_ret
    exact ⟨rfl, Drew.refl _⟩

set_option maxRecDepth 100000 in
set_option maxHeartbeats 2000000 in
theorem equalfunc_c (A B : Option Addr) (n m c d : Nat) (L M : Nat → Nat) (F G : Nat → Nat → Gf.E) (w : World) (ha : RdM w A n L F) (hb : RdM w B m M G) (hn : n ≤ 1048576) (hm : m ≤ 1048576) (hl : ∀ i, i < n → L i ≤ 1048576) (hl2 : ∀ i, i < m → M i ≤ 1048576) :
    Calls Try.prog 32 #[.slice A n c, .slice B m d, .func (.func 33) #[] #[]] w fun e w' => e = .returned (.bool (sameB n m L M F G)) ∧ Drew w w' := by
  by_cases hne : n = m
  · subst hne
    have c0 : ((n : Int) != (n : Int)) = false := by rw [bne_eq_false_iff_eq]
    obtain ⟨Ar, Cr, hr, hrow⟩ := ha
    obtain ⟨Br, Dr, hr2, hrow2⟩ := hb
    have HR := Lib.hid hr
    have HR2 := Lib.hid hr2
    have HEQ := Lib.hid (fun k (hk : k < n) W (hW : Drew w W) => equal_c (Ar k) (Br k) (L k) (M k) (Cr k) (Dr k) (F k) (G k) W (RdF.below (hrow k hk).2 hW.below) (RdF.below (hrow2 k hk).2 hW.below) (hl k hk) (hl2 k hk))
    have HP : Hid (∀ i, i < 0 → L i = M i ∧ ∀ j, j < L i → F i j = G i j) := Lib.hid (fun i hi => absurd hi (Nat.not_lt_zero _))
    have hnot : ∀ (x : Bool) (w : World), (Op.unary .not (.bool x)).run Try.prog w = .ok (.bool (!x)) w := fun _ _ => rfl
    clear hr hr2 hrow hrow2 hm hl hl2
    go_enter Try.func32, Try.ntmps32
    go_wp2_with (fail)
    go_loopg [17] n (fun kq v17 wr => ∃ k : Nat, k + kq = n ∧ v17 = .int .i64 (k : Int) ∧ Hid (∀ i, i < k → L i = M i ∧ ∀ j, j < L i → F i j = G i j) ∧ Drew w wr)
    case atStart => exact ⟨0, by omega, rfl, HP, Drew.refl _⟩
    case round =>
      clear HP
      obtain ⟨k, hk, rfl, HP, HD⟩ := hrel
      by_cases hlt : k < n
      · obtain ⟨ad, rfl, f1⟩ := (HR.out.below HD.below).at_ hlt
        obtain ⟨bd, rfl, f2⟩ := (HR2.out.below HD.below).at_ hlt
        have k1 : (k : Int) < (n : Int) := by omega
        have k0 : (0 : Int) ≤ (k : Int) := by omega
        replace HD := Lib.hid HD
        by_cases he : eqRow (L k) (M k) (F k) (G k) = true
        · have HX := Lib.hid (HEQ.out k hlt _ HD.out)
          rw [he] at HX
          have HE := Lib.hid (show L k = M k ∧ ∀ j, j < L k → F k j = G k j from of_decide_eq_true he)
          clear he
          go_wp2_with (refine HX.out.mono ?_; rintro e w' ⟨rfl, hd⟩; replace hd := Lib.hid (HD.out.trans hd))
          go_roundg (n - (k + 1))
          case measure => omega
          case rel =>
            refine ⟨k + 1, by omega, by go_num, Lib.hid (fun i hi => ?_), hd.out⟩
            by_cases e : i = k
            · subst e; exact HE.out
            · exact HP.out i (by omega)
        · have he : eqRow (L k) (M k) (F k) (G k) = false := by simpa using he
          have HX := Lib.hid (HEQ.out k hlt _ HD.out)
          rw [he] at HX
          have HF : Hid (sameB n n L M F G = false) := Lib.hid (decide_eq_false (fun h => of_decide_eq_false he (h.2 k hlt)))
          clear he
          go_wp2_with (refine HX.out.mono ?_; rintro e w' ⟨rfl, hd⟩; replace hd := Lib.hid (HD.out.trans hd))
          go_ret
          exact ⟨by rw [HF.out]; rfl, hd.out⟩
      · obtain rfl : k = n := by omega
        have HF := Lib.hid (sameB_true (n := k) (m := k) ⟨rfl, HP.out⟩)
        go_wp2_with (fail)
        go_ret
        exact ⟨by rw [HF.out]; rfl, HD⟩
  · have c0 : ((n : Int) != (m : Int)) = true := by rw [bne_iff_ne]; omega
    have hf : sameB n m L M F G = false := decide_eq_false (fun h => hne h.1)
    rw [hf]
    clear ha hb hne hf
    go_enter Try.func32, Try.ntmps32
    go_wp2
    go_ret
    exact ⟨rfl, Drew.refl _⟩
end Go.Proofs.Ytccfnhocjiehnaa
