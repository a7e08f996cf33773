/- glacierlaw11's few and Same: what they answer of matrices that are read. -/
import Derived.Test.YtccfnhocjiehnaaMem
import Derived.Laws.BytesArg
namespace Go.Proofs.Ytccfnhocjiehnaa
open Go.RowKit
set_option linter.unusedVariables false
set_option linter.unusedSimpArgs false

/-! ### Bytes as a string -/
def numsE (n : Nat) (f : Nat → Gf.E) : List Int := (List.range n).map fun j => ((f j).val : Int)
def strE (n : Nat) (f : Nat → Gf.E) : ByteArray := strOfNums (numsE n f)
theorem numsE_length (n : Nat) (f : Nat → Gf.E) : (numsE n f).length = n := by simp [numsE]
theorem numsE_getD (n : Nat) (f : Nat → Gf.E) {j : Nat} (h : j < n) : (numsE n f).getD j 0 = ((f j).val : Int) := by
  simp [numsE, List.getD_eq_getElem?_getD, List.getElem?_map, List.getElem?_range h]
theorem strE_toList (n : Nat) (f : Nat → Gf.E) : (strE n f).data.toList = (List.range n).map fun j => UInt8.ofNat (f j).val := by
  show (strOfNums (numsE n f)).data.toList = _
  rw [strOfNums_data, numsE, List.map_map]
  rfl
theorem strE_congr {n : Nat} {f g : Nat → Gf.E} (h : ∀ j, j < n → f j = g j) : strE n f = strE n g := by
  unfold strE numsE
  congr 1
  exact List.map_congr_left (fun j hj => by rw [h j (List.mem_range.1 hj)])
theorem strE_inj {n m : Nat} {f g : Nat → Gf.E} (h : (strE n f).data.toList = (strE m g).data.toList) : n = m ∧ ∀ j, j < n → f j = g j := by
  rw [strE_toList, strE_toList] at h
  have hl : n = m := by simpa using congrArg List.length h
  subst hl
  refine ⟨rfl, fun j hj => ?_⟩
  have := List.map_inj_left.1 h j (List.mem_range.2 hj)
  have h2 := congrArg UInt8.toNat this
  simp only [UInt8.toNat_ofNat'] at h2
  apply Fin.ext
  have a := (f j).isLt
  have b := (g j).isLt
  omega

theorem run_conv_bytes {P : Program} {w : World} {src dst e : TypeId} {A : Option Addr} {n c : Nat} {f : Nat → Gf.E} (hs : P.underlying src = some (.slice e)) (he : P.underlying e = some (.int .u8)) (hd : P.underlying dst = some .string)
    (h : RdB w A n f) : (convert src dst (.slice A n c)).run P w = .ok (.string (strE n f)) w := by
  rcases A with _ | ad
  · have h0 : n = 0 := by
      rcases Nat.eq_zero_or_pos n with h0 | h0
      · exact h0
      · obtain ⟨ad, h', _⟩ := h h0
        cases h'
    subst h0
    exact run_convert_bytes_nil w src e hs he 0 c dst hd
  · have hl : (loadCells ad n).run P w = .ok ((numsE n f).map (Value.int .u8)).toArray w := by
      have := run_loadCells_list (P := P) w ad ((numsE n f).map (Value.int .u8)) (fun j v hj => by
        have hjl : j < n := by
          rcases Nat.lt_or_ge j n with h' | h'
          · exact h'
          · rw [List.getElem?_eq_none (by rw [List.length_map, numsE_length]; exact h')] at hj
            cases hj
        obtain ⟨ad', he', hc⟩ := h (by omega)
        injection he' with he'
        subst he'
        rw [hc j (by omega)]
        have hg := numsE_getD n f hjl
        rw [List.getD_eq_getElem?_getD, List.getElem?_eq_getElem (by rw [numsE_length]; exact hjl), Option.getD_some] at hg
        rw [List.getElem?_map, List.getElem?_eq_getElem (by rw [numsE_length]; exact hjl), Option.map_some, hg] at hj
        exact hj)
      rw [List.length_map, numsE_length] at this
      exact this
    rw [run_convert_bytes_string w src dst e _ n c hs he hd, run_bytesToString w ad n c (numsE n f) hl, foldl_push_bytes]
    simp [strE, strOfNums, ByteArray.empty, ByteArray.emptyWithCapacity]
    rfl

theorem ret_bool {a b : Bool} (h : a = b) : Ending.returned (.bool a) = .returned (.bool b) := by rw [h]
/-! ### few -/
def sumL (L : Nat → Nat) : Nat → Nat
  | 0 => 0
  | k + 1 => sumL L k + L k
theorem sumL_mono (L : Nat → Nat) {k n : Nat} (h : k ≤ n) : sumL L k ≤ sumL L n := by
  induction n with
  | zero => obtain rfl : k = 0 := by omega
            exact Nat.le_refl _
  | succ n ih =>
    by_cases e : k = n + 1
    · subst e; exact Nat.le_refl _
    · have := ih (by omega)
      simp only [sumL]; omega
theorem sumL_le (L : Nat → Nat) {k n : Nat} (h : k < n) : L k ≤ sumL L n := by
  have := sumL_mono L (show k + 1 ≤ n from h)
  simp only [sumL] at this
  omega
def fewB (n : Nat) (L : Nat → Nat) : Bool := decide (n + sumL L n ≤ 2000)

/-! ### Same -/
def sameB (n m : Nat) (L M : Nat → Nat) (F G : Nat → Nat → Gf.E) : Bool := decide (n = m ∧ ∀ i, i < n → L i = M i ∧ ∀ j, j < L i → F i j = G i j)
theorem sameB_true {n m : Nat} {L M : Nat → Nat} {F G : Nat → Nat → Gf.E} (h : n = m ∧ ∀ i, i < n → L i = M i ∧ ∀ j, j < L i → F i j = G i j) : sameB n m L M F G = true := decide_eq_true h

set_option maxRecDepth 100000 in
set_option maxHeartbeats 1000000 in
theorem same_c (A B : Option Addr) (n m c d : Nat) (L M : Nat → Nat) (F G : Nat → Nat → Gf.E) (w : World) (ha : RdM w A n L F) (hb : RdM w B m M G) (hn : n ≤ 4611686018427387904) (hm : m ≤ 4611686018427387904) :
    Calls Try.prog 12 #[.slice A n c, .slice B m d] w fun e w' => e = .returned (.bool (sameB n m L M F G)) ∧ Drew w w' := by
  by_cases hne : n = m
  · subst hne
    have c0 : ((n : Int) != (n : Int)) = false := by rw [bne_eq_false_iff_eq]
    obtain ⟨Ar, Cr, hr, hrow⟩ := ha
    obtain ⟨Br, Dr, hr2, hrow2⟩ := hb
    have HR := Lib.hid hr
    have HR2 := Lib.hid hr2
    have HW := Lib.hid hrow
    have HW2 := Lib.hid hrow2
    have HP : Hid (∀ i, i < 0 → L i = M i ∧ ∀ j, j < L i → F i j = G i j) := Lib.hid (fun i hi => absurd hi (Nat.not_lt_zero _))
    clear hr hr2 hrow hrow2 hm
    go_enter Try.func12, Try.ntmps12
    go_wp2
    go_loopg [5] n (fun kq v5 wr => ∃ k : Nat, k + kq = n ∧ v5 = .int .i64 (k : Int) ∧ Hid (∀ i, i < k → L i = M i ∧ ∀ j, j < L i → F i j = G i j) ∧ Drew w wr)
    case atStart => exact ⟨0, by omega, rfl, HP, Drew.refl _⟩
    case round =>
      clear HP
      obtain ⟨k, hk, rfl, HP, ⟨q, rfl⟩⟩ := hrel
      by_cases hlt : k < n
      · obtain ⟨ad, rfl, hcell⟩ := HR.out.at_ hlt
        obtain ⟨bd, rfl, hcell2⟩ := HR2.out.at_ hlt
        have hlt' : (k : Int) < (n : Int) := by omega
        have hk0 : (0 : Int) ≤ (k : Int) := by omega
        have hcv : ∀ nq, (convert 22 9 (.slice (Ar k) (L k) (Cr k))).run Try.prog (w.drewN nq) = .ok (.string (strE (L k) (F k))) (w.drewN nq) := fun nq => run_conv_bytes Try.underlying22 Try.underlying5 Try.underlying9 ((HW.out k hlt).2.drewN nq)
        have hcv2 : ∀ nq, (convert 22 9 (.slice (Br k) (M k) (Dr k))).run Try.prog (w.drewN nq) = .ok (.string (strE (M k) (G k))) (w.drewN nq) := fun nq => run_conv_bytes Try.underlying22 Try.underlying5 Try.underlying9 ((HW2.out k hlt).2.drewN nq)
        by_cases he : (strE (L k) (F k)).data.toList = (strE (M k) (G k)).data.toList
        · have hi := strE_inj he
          have HE := Lib.hid hi
          have c1 : ((strE (L k) (F k)).toList == (strE (M k) (G k)).toList) = true := by
            rw [beq_iff_eq, ByteArray.toList_eq, ByteArray.toList_eq]; exact he
          clear hi he
          go_wp2
          go_quiet (fail)
          go_wp2
          go_roundg (n - (k + 1))
          case measure => omega
          case rel =>
            refine ⟨k + 1, by omega, by go_num, Lib.hid (fun i hi => ?_), (by repeat (first | exact Drew.refl _ | apply Drew.step))⟩
            by_cases e : i = k
            · subst e; exact HE.out
            · exact HP.out i (by omega)
        · have c1 : ((strE (L k) (F k)).toList == (strE (M k) (G k)).toList) = false := by
            rw [beq_eq_false_iff_ne, ne_eq, ByteArray.toList_eq, ByteArray.toList_eq]; exact he
          have hf : sameB n n L M F G = false := by
            refine decide_eq_false (fun h => he ?_)
            have := h.2 k hlt
            rw [← this.1, strE_congr this.2]
          have HF := Lib.hid hf
          clear hf he
          go_wp2
          go_quiet (fail)
          go_wp2
          go_ret
          exact ⟨by rw [HF.out]; rfl, (by repeat (first | exact Drew.refl _ | apply Drew.step))⟩
      · obtain rfl : k = n := by omega
        have HF := Lib.hid (sameB_true (n := k) (m := k) ⟨rfl, HP.out⟩)
        go_wp2
        go_ret
        exact ⟨by rw [HF.out]; rfl, (by repeat (first | exact Drew.refl _ | apply Drew.step))⟩
  · have c0 : ((n : Int) != (m : Int)) = true := by rw [bne_iff_ne]; omega
    have hf : sameB n m L M F G = false := decide_eq_false (fun h => hne h.1)
    rw [hf]
    clear ha hb hne hf
    go_enter Try.func12, Try.ntmps12
    go_wp2
    go_ret
    exact ⟨rfl, Drew.refl _⟩
end Go.Proofs.Ytccfnhocjiehnaa
