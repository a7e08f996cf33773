/- glacierlaw12.lost: shards, less those that were picked. -/
import Derived.Test.YtccfnhocjiehnaaRsMend
import Derived.Test.YtccfnhocjiehnaaOpen
namespace Go.Proofs.Ytccfnhocjiehnaa
open Go.RowKit
set_option linter.unusedVariables false
set_option linter.unusedSimpArgs false

/-- Rows, less those of Z. -/
def lostV (b3 cs : Nat → Nat) (q : Nat) (Z : List Nat) (i : Nat) : Value := if i ∈ Z then .slice none 0 0 else .slice (some ⟨b3 i, 0, none⟩) q (cs i)
structure LostR (w wr : World) (gl s q : Nat) (b3 cs : Nat → Nat) (Z : List Nat) (i : Nat) : Prop where
  nodup : Z.Nodup
  len : Z.length = i
  lt : ∀ z ∈ Z, z < s
  row : RowAt wr gl 22 s (lostV b3 cs q Z)
  far : w.heap.size ≤ gl
  below : Below w.heap.size w wr
theorem LostR.step {w wr : World} {gl s q i k : Nat} {b3 cs : Nat → Nat} {Z : List Nat} (h : LostR w wr gl s q b3 cs Z i) (hk : k < s) (hz : k ∉ Z) : LostR w (wr.setCell ⟨gl, k, none⟩ (.slice none 0 0)) gl s q b3 cs (k :: Z) (i + 1) :=
  ⟨List.nodup_cons.2 ⟨hz, h.nodup⟩, by rw [List.length_cons, h.len], fun z hm => by rcases List.mem_cons.1 hm with rfl | hm; exact hk; exact h.lt z hm,
    (h.row.set k (.slice none 0 0)).congr (fun j hj => by
      unfold lostV
      by_cases e : j = k
      · simp [e]
      · simp [e]), h.far, h.below.setCell h.far _⟩
theorem LostR.free {w wr : World} {gl s q i : Nat} {b3 cs : Nat → Nat} {Z : List Nat} (h : LostR w wr gl s q b3 cs Z i) (hi : i < s) : ∃ u, u < s ∧ u ∉ Z :=
  Decidable.byContradiction fun hn => by
    have h1 := len_sub (List.range s) Z List.nodup_range (fun a ha => Decidable.byContradiction fun h2 => hn ⟨a, List.mem_range.1 ha, h2⟩)
    rw [List.length_range, h.len] at h1
    omega

set_option maxRecDepth 100000 in
set_option maxHeartbeats 8000000 in
theorem lost_c (g3 p3 s q : Nat) (b3 cs : Nat → Nat) (n : Nat) (A : Option Addr) (ln lc : Nat) (f : Nat → Int) (w : World) (hr : RowAt w g3 22 s (fun i => .slice (some ⟨b3 i, 0, none⟩) q (cs i))) (ha : RdF w A ln (fun j => .int .i64 (f j)))
    (hf : ∀ j, j < ln → -9223372036854775808 ≤ f j ∧ f j ≤ 9223372036854775807) (hs : 1 ≤ s) (hs2 : s ≤ 1048576) (hq : 1 ≤ q) (hn : n ≤ s) :
    Calls Try.prog 13 #[.slice (some ⟨g3, 0, none⟩) s p3, .int .i64 n, .slice A ln lc] w fun e w' => ∃ gl cl Z, e = .returned (.slice (some ⟨gl, 0, none⟩) s cl) ∧ s ≤ cl ∧ LostR w w' gl s q b3 cs Z n := by
  obtain ⟨i56, hi, hz0, hz1, hz2⟩ := info_parts info56
  have HNEWS := Lib.hid (show ∀ j u, (rowVals s q b3 cs)[j]? = some u → (w.alloc (.cells #[] 22)).cell? ((⟨g3, 0, none⟩ : Addr).add j) = some u from fun j u hj => by
    have hl : j < s := by
      have := (List.getElem?_eq_some_iff.1 hj).1
      rwa [rowVals_len] at this
    rw [rowVals_at hl] at hj
    injection hj with hj
    rw [← hj, add_plain]; exact (hr.alloc _).cell hl)
  have HX1 := Lib.hid (show (rowVals s q b3 cs).length = s * 1 by rw [rowVals_len, Nat.mul_one])
  have HX2 := Lib.hid (show 0 + s ≤ maxLen by unfold maxLen; omega)
  have HX3 := Lib.hid (show (0 + s) * 24 ≤ 140737488355328 by omega)
  have HMORE : Hid (∀ v5 w10, w10.ownsRow w.heap.size 22 1 v5 (0 + s) ([] ++ rowVals s q b3 cs) → (w.alloc (.cells #[] 22)).grownBy w10 (Value.slice (some ⟨w.heap.size, 0, none⟩) 0 0).ownBlock → ∃ gl cl, v5 = .slice (some ⟨gl, 0, none⟩) s cl ∧ s ≤ cl ∧ LostR w w10 gl s q b3 cs [] 0) := Lib.hid (fun v5 w10 h3 h4 => by
    rw [Nat.zero_add, List.nil_append] at h3
    obtain ⟨gl, cl, rfl, hcl, hr, hgl⟩ := RowAt.of_own (f := fun i => .slice (some ⟨b3 i, 0, none⟩) q (cs i)) (show 0 < s by omega) h3 (fun i hi => rowVals_at hi)
    exact ⟨gl, cl, rfl, hcl, List.nodup_nil, rfl, fun z hz => by simp at hz, hr.congr (fun j hj => by simp [lostV]), hgl, (box_below w _).grown h4 (by simp) (fun k hk => Nat.le_of_eq (by simpa [Value.ownBlock] using hk))⟩)
  have HA := Lib.hid ha
  have HF := Lib.hid hf
  have s0 : (1 : Int) ≤ (s : Int) := by omega
  have s1 : (s : Int) ≤ 1048576 := by omega
  have s3 : ¬ (s : Int) = 0 := by omega
  clear hr ha hf
  go_enter Try.func13, Try.ntmps13
  go_wp2_with (at_builtin; refine wpList_append_own _ rfl (.tmp 10) (.tmp 11) 28 rfl w.heap.size 22 i56 (.slice none 0 0) 1 24 Try.underlying28 hi hz0 hz1 hz2 rfl (by decide) (.slice (some ⟨w.heap.size, 0, none⟩) 0 0) 0 [] (by rfl) (own_empty w _) ⟨g3, 0, none⟩ s p3 (rowVals s q b3 cs) (by rfl) HX1.out HNEWS.out (rowVals_one _ _ _ _) HX2.out HX3.out (by simp) ?_; intro v5 w10 hown5 hgrow5 hz; clear hz; obtain ⟨gl, cl, hv5, hcl, hlr⟩ := HMORE.out v5 w10 hown5 hgrow5; subst hv5; replace hlr := Lib.hid hlr; clear hown5 hgrow5)
  clear HNEWS HMORE HX1 HX2 HX3 hz0 hz1 hz2 hi
  go_loopg [8] n (fun kq v8 wr => ∃ (i : Nat) (Z : List Nat), i + kq = n ∧ v8 = .int .i64 (i : Int) ∧ Hid (LostR w wr gl s q b3 cs Z i))
  case atStart => exact ⟨0, [], by omega, rfl, hlr⟩
  case round =>
    clear hlr
    obtain ⟨i, Z, hi2, rfl, HI⟩ := hrel
    by_cases hlt : i < n
    · obtain ⟨u, hu1, hu2⟩ := HI.out.free (by omega)
      have i0 : (0 : Int) ≤ (i : Int) := by omega
      have i1 : (i : Int) < (n : Int) := by omega
      by_cases hin : i < ln
      · obtain ⟨ad, rfl, hg⟩ := (HA.out.below HI.out.below).at_ hin
        obtain ⟨hf1, hf2⟩ := HF.out i hin
        have i2 : (i : Int) < (ln : Int) := by omega
        obtain ⟨x, hx⟩ : ∃ x, x = f i := ⟨_, rfl⟩
        rw [← hx] at hg hf1 hf2
        clear hx
        by_cases hx0 : 0 ≤ x
        · obtain ⟨k0, hk0'⟩ : ∃ k0 : Nat, x.tmod (s : Int) = (k0 : Int) := ⟨(x.tmod s).toNat, by rw [Int.toNat_of_nonneg (Int.tmod_nonneg _ hx0)]⟩
          have hk0 : k0 < s := by have := Int.tmod_lt_of_pos x (b := (s : Int)) (by omega); omega
          replace hi2 := Lib.hid hi2
          go_wp2_with (fail)
          go_loopg [9] (if k0 ≤ u then u - k0 else u + s - k0) (fun mq v9 wx => ∃ k : Nat, k < s ∧ ((k ≤ u ∧ k + mq = u) ∨ (u < k ∧ k + mq = u + s)) ∧ v9 = .int .i64 (k : Int) ∧ wr = wx)
          case atStart => exact ⟨k0, hk0, by split <;> omega, by go_num, rfl⟩
          case round =>
            obtain ⟨k, hks, hku, rfl, rfl⟩ := hrel
            have j0 : (0 : Int) ≤ (k : Int) := by omega
            have j1 : (k : Int) < (s : Int) := by omega
            have fr := HI.out.row.cell hks
            have fz := HI.out.row.frozen k
            by_cases hz : k ∈ Z
            · have hne : k ≠ u := fun h => hu2 (h ▸ hz)
              unfold lostV at fr
              rw [if_pos hz] at fr
              by_cases hl : k + 1 = s
              · have t1 : ((k : Int) + 1).tmod (s : Int) = 0 := by rw [← hl]; simp
                have HKU : Hid (k ≠ u ∧ k + 1 = s ∧ u < s ∧ ((k ≤ u ∧ k + gk = u) ∨ (u < k ∧ k + gk = u + s))) := Lib.hid ⟨hne, hl, hu1, hku⟩
                clear hl hku hne hz fz
                go_wp2_with (fail)
                go_roundg u
                case measure => have := HKU.out; omega
                case rel => exact ⟨0, by omega, .inl ⟨by omega, by omega⟩, by go_num, rfl⟩
              · have t1 : ((k : Int) + 1).tmod (s : Int) = (k : Int) + 1 := Int.tmod_eq_of_lt (by omega) (by omega)
                have HKU : Hid (k ≠ u ∧ k + 1 < s ∧ u < s ∧ ((k ≤ u ∧ k + gk = u) ∨ (u < k ∧ k + gk = u + s))) := Lib.hid ⟨hne, by omega, hu1, hku⟩
                clear hl hku hne hz fz
                go_wp2_with (fail)
                go_roundg (gk - 1)
                case measure => have := HKU.out; omega
                case rel => exact ⟨k + 1, by have := HKU.out; omega, by have := HKU.out; omega, by go_num, rfl⟩
            · unfold lostV at fr
              rw [if_neg hz] at fr
              have HN := Lib.hid (HI.out.step hks hz)
              have q0 : ¬ (q : Int) = 0 := by omega
              clear hku hz
              go_wp2_with (fail)
              go_roundg (n - (i + 1))
              case measure => have := hi2.out; omega
              case rel => exact ⟨i + 1, k :: Z, by have := hi2.out; omega, by go_num, HN⟩

        · have hx1 : x < 0 := by omega
          obtain ⟨k0, hk0'⟩ : ∃ k0 : Nat, k0 = 0 := ⟨_, rfl⟩
          have hk0 : k0 < s := by omega
          clear hx0
          replace hi2 := Lib.hid hi2
          go_wp2_with (fail)
          go_loopg [9] (if k0 ≤ u then u - k0 else u + s - k0) (fun mq v9 wx => ∃ k : Nat, k < s ∧ ((k ≤ u ∧ k + mq = u) ∨ (u < k ∧ k + mq = u + s)) ∧ v9 = .int .i64 (k : Int) ∧ wr = wx)
          case atStart => exact ⟨k0, hk0, by split <;> omega, by rw [hk0']; rfl, rfl⟩
          case round =>
            obtain ⟨k, hks, hku, rfl, rfl⟩ := hrel
            have j0 : (0 : Int) ≤ (k : Int) := by omega
            have j1 : (k : Int) < (s : Int) := by omega
            have fr := HI.out.row.cell hks
            have fz := HI.out.row.frozen k
            by_cases hz : k ∈ Z
            · have hne : k ≠ u := fun h => hu2 (h ▸ hz)
              unfold lostV at fr
              rw [if_pos hz] at fr
              by_cases hl : k + 1 = s
              · have t1 : ((k : Int) + 1).tmod (s : Int) = 0 := by rw [← hl]; simp
                have HKU : Hid (k ≠ u ∧ k + 1 = s ∧ u < s ∧ ((k ≤ u ∧ k + gk = u) ∨ (u < k ∧ k + gk = u + s))) := Lib.hid ⟨hne, hl, hu1, hku⟩
                clear hl hku hne hz fz
                go_wp2_with (fail)
                go_roundg u
                case measure => have := HKU.out; omega
                case rel => exact ⟨0, by omega, .inl ⟨by omega, by omega⟩, by go_num, rfl⟩
              · have t1 : ((k : Int) + 1).tmod (s : Int) = (k : Int) + 1 := Int.tmod_eq_of_lt (by omega) (by omega)
                have HKU : Hid (k ≠ u ∧ k + 1 < s ∧ u < s ∧ ((k ≤ u ∧ k + gk = u) ∨ (u < k ∧ k + gk = u + s))) := Lib.hid ⟨hne, by omega, hu1, hku⟩
                clear hl hku hne hz fz
                go_wp2_with (fail)
                go_roundg (gk - 1)
                case measure => have := HKU.out; omega
                case rel => exact ⟨k + 1, by have := HKU.out; omega, by have := HKU.out; omega, by go_num, rfl⟩
            · unfold lostV at fr
              rw [if_neg hz] at fr
              have HN := Lib.hid (HI.out.step hks hz)
              have q0 : ¬ (q : Int) = 0 := by omega
              clear hku hz
              go_wp2_with (fail)
              go_roundg (n - (i + 1))
              case measure => have := hi2.out; omega
              case rel => exact ⟨i + 1, k :: Z, by have := hi2.out; omega, by go_num, HN⟩

      · obtain ⟨k0, hk0'⟩ : ∃ k0 : Nat, k0 = 0 := ⟨_, rfl⟩
        have hk0 : k0 < s := by omega
        have i2 : (ln : Int) ≤ (i : Int) := by omega
        clear hin
        replace hi2 := Lib.hid hi2
        go_wp2_with (fail)
        go_loopg [9] (if k0 ≤ u then u - k0 else u + s - k0) (fun mq v9 wx => ∃ k : Nat, k < s ∧ ((k ≤ u ∧ k + mq = u) ∨ (u < k ∧ k + mq = u + s)) ∧ v9 = .int .i64 (k : Int) ∧ wr = wx)
        case atStart => exact ⟨k0, hk0, by split <;> omega, by rw [hk0']; rfl, rfl⟩
        case round =>
          obtain ⟨k, hks, hku, rfl, rfl⟩ := hrel
          have j0 : (0 : Int) ≤ (k : Int) := by omega
          have j1 : (k : Int) < (s : Int) := by omega
          have fr := HI.out.row.cell hks
          have fz := HI.out.row.frozen k
          by_cases hz : k ∈ Z
          · have hne : k ≠ u := fun h => hu2 (h ▸ hz)
            unfold lostV at fr
            rw [if_pos hz] at fr
            by_cases hl : k + 1 = s
            · have t1 : ((k : Int) + 1).tmod (s : Int) = 0 := by rw [← hl]; simp
              have HKU : Hid (k ≠ u ∧ k + 1 = s ∧ u < s ∧ ((k ≤ u ∧ k + gk = u) ∨ (u < k ∧ k + gk = u + s))) := Lib.hid ⟨hne, hl, hu1, hku⟩
              clear hl hku hne hz fz
              go_wp2_with (fail)
              go_roundg u
              case measure => have := HKU.out; omega
              case rel => exact ⟨0, by omega, .inl ⟨by omega, by omega⟩, by go_num, rfl⟩
            · have t1 : ((k : Int) + 1).tmod (s : Int) = (k : Int) + 1 := Int.tmod_eq_of_lt (by omega) (by omega)
              have HKU : Hid (k ≠ u ∧ k + 1 < s ∧ u < s ∧ ((k ≤ u ∧ k + gk = u) ∨ (u < k ∧ k + gk = u + s))) := Lib.hid ⟨hne, by omega, hu1, hku⟩
              clear hl hku hne hz fz
              go_wp2_with (fail)
              go_roundg (gk - 1)
              case measure => have := HKU.out; omega
              case rel => exact ⟨k + 1, by have := HKU.out; omega, by have := HKU.out; omega, by go_num, rfl⟩
          · unfold lostV at fr
            rw [if_neg hz] at fr
            have HN := Lib.hid (HI.out.step hks hz)
            have q0 : ¬ (q : Int) = 0 := by omega
            clear hku hz
            go_wp2_with (fail)
            go_roundg (n - (i + 1))
            case measure => have := hi2.out; omega
            case rel => exact ⟨i + 1, k :: Z, by have := hi2.out; omega, by go_num, HN⟩

    · obtain rfl : i = n := by omega
      go_wp2_with (fail)
      go_ret
      exact ⟨gl, cl, Z, rfl, hcl, HI.out⟩
end Go.Proofs.Ytccfnhocjiehnaa
