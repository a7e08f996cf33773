/- The document's there: which shards are there. -/
import Derived.Test.YtccfnhocjiehnaaDocEnc
import Derived.Test.YtccfnhocjiehnaaWhole
namespace Go.Proofs.Ytccfnhocjiehnaa
open Go.RowKit
set_option linter.unusedVariables false
set_option linter.unusedSimpArgs false

def natsV (l : List Nat) : List Value := l.map fun (j : Nat) => Value.int .i64 (j : Int)
theorem presTo_len (L : Nat → Nat) (i : Nat) : (presTo L i).length ≤ i := by
  unfold presTo
  have := List.length_filter_le (fun j => !noneB L j) (List.range i)
  rwa [List.length_range] at this
theorem natsV_len (l : List Nat) : (natsV l).length = l.length := by simp [natsV]
theorem natsV_at {l : List Nat} {j : Nat} (h : j < l.length) : (natsV l)[j]? = some (.int .i64 ((l.getD j 0 : Nat) : Int)) := by
  unfold natsV
  rw [List.getElem?_map, List.getD_eq_getElem?_getD, List.getElem?_eq_getElem h]; rfl
structure ThereR (w wr : World) (A : Option Addr) (c : Nat) (l : List Nat) : Prop where
  own : wr.ownsRow w.heap.size 3 1 (.slice A l.length c) l.length (natsV l)
  below : Below w.heap.size w wr
theorem ThereR.step {w wr w4 : World} {A : Option Addr} {c i : Nat} {l : List Nat} {v : Value} {o : Obj} (h : ThereR w wr A c l) (hown : w4.ownsRow w.heap.size 3 1 v (l.length + 1) (natsV l ++ [.int .i64 (i : Int)])) (hg : (wr.alloc o).grownBy w4 (Value.slice A l.length c).ownBlock) :
    ∃ A' c', v = .slice A' (l ++ [i]).length c' ∧ ThereR w w4 A' c' (l ++ [i]) := by
  obtain ⟨A', c', rfl, _⟩ := own_form hown
  have e : (l ++ [i]).length = l.length + 1 := by simp
  have e2 : natsV (l ++ [i]) = natsV l ++ [.int .i64 (i : Int)] := by simp [natsV]
  refine ⟨A', c', by rw [e], by rw [e, e2]; exact hown, (h.below.alloc h.below.size o).grown hg (by have := h.below.size; simp; omega) (own_base h.own)⟩

set_option maxRecDepth 100000 in
set_option maxHeartbeats 4000000 in
theorem there_c (b k m s : Nat) (A : Option Addr) (c : Nat) (L : Nat → Nat) (G : Nat → Nat → Gf.E) (w : World) (hc : DocR w b k m) (hkm : k + m ≤ 255) (ha : RdM w A s L G) (hs : s ≤ 1048576) (hl : ∀ i, i < s → L i ≤ 1048576) :
    Calls Try.prog 44 #[.pointer (some ⟨b, 0, none⟩), .slice A s c] w fun e w' => (alikeB s (k + m) L = false ∧ e = .returned (.tuple #[.slice none 0 0, .int .i64 0, .int .i64 1]) ∧ Below w.heap.size w w') ∨
      (alikeB s (k + m) L = true ∧ ∃ A' c', e = .returned (.tuple #[.slice A' (presTo L s).length c', .int .i64 (maxL L s), .int .i64 0]) ∧ (presTo L s).length ≤ c' ∧ RdF w' A' (presTo L s).length (fun j => .int .i64 (((presTo L s).getD j 0 : Nat) : Int)) ∧ Below w.heap.size w w') := by
  obtain ⟨c1, c2⟩ := hc
  obtain ⟨i3, hi3, hz30, hz31, hz32⟩ := info_parts info3
  have HA := Lib.hid ha
  have HL := Lib.hid hl
  clear ha hl
  by_cases hsk : s = k + m
  · have c0 : ((s : Int) != (k : Int) + (m : Int)) = false := by rw [bne_eq_false_iff_eq]; omega
    have HSK := Lib.hid hsk
    have hs' : (s : Int) ≤ 1048576 := by omega
    clear hsk
    go_enter Try.func44, Try.ntmps44
    go_wp2_with (fail)
    go_quiet (fail)
    have HST : Hid (ThereR w (w.drewN nq) none 0 (presTo L 0)) := Lib.hid (by rw [show presTo L 0 = [] by simp [presTo]]; exact ⟨World.ownsRow_nil _ _ _ _, below_drewN (Below.refl _ _) nq⟩)
    go_wp2_with (fail)
    go_loopg [7, 8, 9] s (fun kq v7 v8 v9 wr => ∃ (i : Nat) (A8 : Option Addr) (c8 : Nat), i + kq = s ∧ v9 = .int .i64 (i : Int) ∧ v7 = .int .i64 (maxL L i : Int) ∧ v8 = .slice A8 (presTo L i).length c8 ∧ Hid (OneLen L i) ∧ Hid (ThereR w wr A8 c8 (presTo L i)))
    case atStart => exact ⟨0, none, 0, by omega, rfl, rfl, by simp [presTo], Lib.hid (fun i hi => absurd hi (Nat.not_lt_zero _)), HST⟩
    case round =>
      clear HST
      obtain ⟨i, A8, c8, hi0, rfl, rfl, rfl, HO, HI⟩ := hrel
      by_cases hlt : i < s
      · have i1 : (i : Int) < (s : Int) := by omega
        have i0 : (0 : Int) ≤ (i : Int) := by omega
        obtain ⟨Ar, Cr, hr, _⟩ := HA.out.below HI.out.below
        obtain ⟨ad, rfl, f1⟩ := hr.at_ hlt
        obtain ⟨q, hq⟩ : ∃ q, q = L i := ⟨_, rfl⟩
        obtain ⟨M, hM⟩ : ∃ M, M = maxL L i := ⟨_, rfl⟩
        rw [← hq] at f1
        rw [← hM]
        have hq2 : q ≤ 1048576 := by rw [hq]; exact HL.out i hlt
        have hpl := presTo_len L i
        clear hr
        by_cases h0 : q = 0
        · have d0 : ((q : Nat) : Int) = 0 := by omega
          have HN : Hid (maxL L (i + 1) = M ∧ presTo L (i + 1) = presTo L i ∧ OneLen L (i + 1)) := Lib.hid ⟨by show max _ _ = _; omega, presTo_no (by omega), oneLen_step HO.out (.inl (by omega))⟩
          clear h0 hq hM HO
          go_wp2_with (fail)
          go_roundg (s - (i + 1))
          case measure => omega
          case rel => exact ⟨i + 1, A8, c8, by omega, by go_num, by rw [HN.out.1], by rw [HN.out.2.1], Lib.hid HN.out.2.2, by rw [HN.out.2.1]; exact HI⟩
        · have d0 : ¬ ((q : Nat) : Int) = 0 := by omega
          have MORE : (M = 0 ∨ q = M) → Hid (maxL L (i + 1) = q ∧ presTo L (i + 1) = presTo L i ++ [i] ∧ OneLen L (i + 1)) := fun h => Lib.hid ⟨by show max _ _ = _; omega, presTo_yes (by omega), oneLen_step HO.out (.inr (by omega))⟩
          have NOT : ¬ (M = 0 ∨ q = M) → Hid (alikeB s (k + m) L = false) := fun h => Lib.hid (decide_eq_false (fun h2 => oneLen_not hlt (by omega) (by omega) (by omega) h2.2))
          by_cases hM0 : M = 0
          · have d1 : ((M : Nat) : Int) = 0 := by omega
            have HN := MORE (.inl hM0)
            clear h0 hq hM HO MORE NOT hM0
            go_wp2_with (at_builtin; refine wpList_append_own _ rfl (.tmp 50) (.tmp 52) 37 rfl w.heap.size 3 i3 (.int .i64 0) 1 8 Try.underlying37 hi3 hz30 hz31 hz32 rfl (by decide) (.slice A8 (presTo L i).length c8) (presTo L i).length _ (by rfl) (HI.out.own.alloc _) ⟨wr.heap.size, 0, none⟩ 1 1 [.int .i64 (i : Int)] (by rfl) rfl (one_news _ _ _ rfl) (one_one _ rfl) (by unfold maxLen; omega) (by omega) (by have := HI.out.below.size; simp; omega) ?_; intro v7 w7 hown7 hg7 hz; clear hz; have HS := Lib.hid (HI.out.step hown7 hg7); clear hown7 hg7)
            obtain ⟨A9, c9, hv9, hS⟩ := HS.out
            subst hv9
            replace hS := Lib.hid hS
            clear HS
            go_roundg (s - (i + 1))
            case measure => omega
            case rel => exact ⟨i + 1, A9, c9, by omega, by go_num, by rw [HN.out.1], by rw [HN.out.2.1], Lib.hid HN.out.2.2, by rw [HN.out.2.1]; exact hS⟩
          · by_cases hqM : q = M
            · have d1 : ¬ ((M : Nat) : Int) = 0 := by omega
              have HN := MORE (.inr hqM)
              have hqq := Lib.hid hqM.symm
              have d2 : ((q : Int) != (M : Int)) = false := by rw [bne_eq_false_iff_eq, hqM]
              clear h0 hq hM HO MORE NOT hM0 hqM
              go_wp2_with (at_builtin; refine wpList_append_own _ rfl (.tmp 50) (.tmp 52) 37 rfl w.heap.size 3 i3 (.int .i64 0) 1 8 Try.underlying37 hi3 hz30 hz31 hz32 rfl (by decide) (.slice A8 (presTo L i).length c8) (presTo L i).length _ (by rfl) (HI.out.own.alloc _) ⟨wr.heap.size, 0, none⟩ 1 1 [.int .i64 (i : Int)] (by rfl) rfl (one_news _ _ _ rfl) (one_one _ rfl) (by unfold maxLen; omega) (by omega) (by have := HI.out.below.size; simp; omega) ?_; intro v7 w7 hown7 hg7 hz; clear hz; have HS := Lib.hid (HI.out.step hown7 hg7); clear hown7 hg7)
              obtain ⟨A9, c9, hv9, hS⟩ := HS.out
              subst hv9
              replace hS := Lib.hid hS
              clear HS
              go_roundg (s - (i + 1))
              case measure => omega
              case rel => exact ⟨i + 1, A9, c9, by omega, by go_num, by rw [HN.out.1], by rw [HN.out.2.1], Lib.hid HN.out.2.2, by rw [HN.out.2.1]; exact hS⟩
            · have d1 : ¬ ((M : Nat) : Int) = 0 := by omega
              have HN := NOT (by omega)
              have d2 : ((q : Int) != (M : Int)) = true := by rw [bne_iff_ne]; omega
              clear h0 hq hM HO MORE NOT hM0 hqM
              go_wp2_with (fail)
              go_ret3
              exact .inl ⟨HN.out, rfl, HI.out.below⟩
      · obtain rfl : i = s := by omega
        have HP := Lib.hid (show alikeB i (k + m) L = true from decide_eq_true ⟨HSK.out, HO.out⟩)
        obtain ⟨A', c', hv, hcc⟩ := own_form HI.out.own
        injection hv with hvA _ hvc
        subst hvA hvc
        have HF := Lib.hid (RdF.of_own HI.out.own (f := fun j => .int .i64 (((presTo L i).getD j 0 : Nat) : Int)) (fun j hj => natsV_at hj))
        have HCC := Lib.hid hcc
        clear hcc HO
        go_wp2_with (fail)
        go_ret3
        exact .inr ⟨HP.out, A8, c8, rfl, HCC.out, HF.out, HI.out.below⟩
  · have c0 : ((s : Int) != (k : Int) + (m : Int)) = true := by rw [bne_iff_ne]; omega
    have HP := Lib.hid (show alikeB s (k + m) L = false from decide_eq_false (fun h => hsk h.1))
    clear hsk
    go_enter Try.func44, Try.ntmps44
    go_wp2_with (fail)
    go_quiet (fail)
    go_wp2_with (fail)
    go_ret3
    exact .inl ⟨HP.out, rfl, below_drewN (Below.refl _ _) nq⟩
end Go.Proofs.Ytccfnhocjiehnaa
