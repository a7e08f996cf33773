/- The reference's Unit, with its rows' own block: it is appended to. -/
import Derived.Test.YtccfnhocjiehnaaRefB
import Derived.Test.YtccfnhocjiehnaaBlank
import Derived.Test.YtccfnhocjiehnaaWholeA
namespace Go.Proofs.Ytccfnhocjiehnaa
open Go.RowKit
set_option linter.unusedVariables false
set_option linter.unusedSimpArgs false

theorem own_same {w w1 : World} {base g n cap size : Nat} {e : TypeId} {xs : List Value} (h : w.ownsRow base e size (.slice (some ⟨g, 0, none⟩) n cap) n xs) (hg : w1.heap[g]? = w.heap[g]?) : w1.ownsRow base e size (.slice (some ⟨g, 0, none⟩) n cap) n xs := by
  refine ⟨h.1, ?_⟩
  rcases h.2 with ⟨h1, _⟩ | ⟨g', cap', cur, hv, h2, h3, h4⟩
  · cases h1
  · injection hv with hv1 _ hv2
    injection hv1 with hv1
    injection hv1 with hv1
    subst hv1 hv2
    exact .inr ⟨g, cap, cur, rfl, h2, by rw [hg]; exact h3, h4⟩
set_option maxRecDepth 100000 in
set_option maxHeartbeats 1000000 in
theorem blank_own (r c : Nat) (w : World) (hr0 : 0 < r) (hr : r ≤ 256) (hc : c ≤ 256) :
    Calls Try.prog 73 #[.int .i64 r, .int .i64 c] w fun e w' => ∃ g cap bs, e = .returned (.slice (some ⟨g, 0, none⟩) r cap) ∧ OwnMat w w' g r c bs (fun _ _ => 0) ∧ r ≤ cap ∧ w'.ownsRow w.heap.size 22 1 (.slice (some ⟨g, 0, none⟩) r cap) r ((List.range r).map fun i => .slice (some ⟨bs i, 0, none⟩) c c) := by
  obtain ⟨i0, hi, hz0, hz1, hz2⟩ := info_parts info56
  have hmk2 := run_make_row' (P := Try.prog) 22 5 (.int .u8 0) 1 Try.underlying22 info5 rfl .i64 .i64 c (by omega) (by omega)
  have HI : Hid (BlankR w w c 0 (.slice none 0 0) (fun _ => 0)) := Lib.hid ⟨World.ownsRow_nil _ _ _ _, fun i hi => absurd hi (Nat.not_lt_zero _), fun i hi => absurd hi (Nat.not_lt_zero _), fun i j hi => absurd hi (Nat.not_lt_zero _), Below.refl _ _⟩
  go_enter Try.func73, Try.ntmps73
  go_wp2
  go_loopg [5, 6] r (fun kq v5 v6 wr => ∃ k : Nat, k + kq = r ∧ v6 = .int .i64 (k : Int) ∧ ∃ bs, Hid (BlankR w wr c k v5 bs))
  case atStart => exact ⟨0, by omega, rfl, _, HI⟩
  case round =>
    clear HI
    obtain ⟨k, hk, rfl, bs, HR⟩ := hrel
    by_cases hlt : k < r
    · have hsz := HR.out.below.size
      go_wp2_with (first | (at_builtin; refine wpList_append_own _ rfl _ _ 28 rfl w.heap.size 22 i0 (.slice none 0 0) 1 24 Try.underlying28 hi hz0 hz1 hz2 rfl (by decide) _ k _ rfl ((HR.out.own.alloc _).alloc _) ⟨wr.heap.size + 1, 0, none⟩ 1 1 [.slice (some ⟨wr.heap.size, 0, none⟩) c c] rfl rfl ?c1 ?c2 ?c3 ?c4 ?c5 ?_))
      case c1 =>
        intro j u hj
        match j, hj with
        | 0, hj => simp at hj; subst hj; simp [Addr.add]
      case c2 => intro u hu; simp at hu; subst hu; rfl
      case c3 => unfold maxLen; omega
      case c4 => omega
      case c5 => simp; omega
      intro v' w1 hown' hgrow _
      have HS := Lib.hid (HR.out.step hown' _ hgrow)
      clear hown' hgrow HR
      go_wp2
      go_roundg (r - (k + 1))
      case measure => omega
      case rel => exact ⟨k + 1, by omega, by go_num, _, HS⟩
    · obtain rfl : k = r := by omega
      go_wp2
      go_ret
      obtain ⟨ho, h1, h2, h3, hb⟩ := HR.out
      obtain ⟨b, cap, rfl, hcap, ho1, ho2⟩ := RowAt.of_own (f := fun i => .slice (some ⟨bs i, 0, none⟩) c c) hr0 ho (fun i hi => by rw [List.getElem?_map, List.getElem?_range hi]; rfl)
      exact ⟨b, cap, bs, rfl, ⟨⟨fun _ => c, ho1, fun i hi => ⟨Nat.le_refl _, h1 i hi⟩⟩, ho2, h2, h3, hb⟩, hcap, ho⟩
set_option maxRecDepth 100000 in
set_option maxHeartbeats 1000000 in
theorem runit_own (n : Nat) (w : World) (h1 : 1 ≤ n) (h2 : n ≤ 255) : Calls Try.prog 58 #[.int .i64 n] w fun e w' => ∃ g cap bs, e = .returned (.tuple #[.slice (some ⟨g, 0, none⟩) n cap, .int .i64 0]) ∧ OwnMat w w' g n n bs unitE ∧ n ≤ cap ∧ w'.ownsRow w.heap.size 22 1 (.slice (some ⟨g, 0, none⟩) n cap) n ((List.range n).map fun i => .slice (some ⟨bs i, 0, none⟩) n n) := by
  go_enter Try.func58, Try.ntmps58
  go_wp2_with (go_at_call 73; refine (blank_own n n _ (by omega) (by omega) (by omega)).mono ?_; rintro e w1 ⟨g, cap, bs, rfl, hM, hcap, hown⟩; replace hM := Lib.hid hM; replace hown := Lib.hid hown)
  go_loopg [5] n (fun kq v5 wr => ∃ k : Nat, k + kq = n ∧ v5 = .int .i64 (k : Int) ∧ Hid (OwnMat w wr g n n bs (UniF k)) ∧ Hid (wr.ownsRow w.heap.size 22 1 (.slice (some ⟨g, 0, none⟩) n cap) n ((List.range n).map fun i => .slice (some ⟨bs i, 0, none⟩) n n)))
  case atStart => exact ⟨0, by omega, rfl, Lib.hid (hM.out.congr (fun i j _ _ => by simp [UniF])), hown⟩
  case round =>
    clear hM hown
    obtain ⟨k, hk, rfl, hM, hown⟩ := hrel
    by_cases hlt : k < n
    · obtain ⟨c, hc1, hc2⟩ := hM.out.cellO hlt
      have hc3 := hM.out.cellE hlt hlt
      have hf := hM.out.frz hlt k
      have hlt' : (k : Int) < (n : Int) := by omega
      have HS : Hid (OwnMat w (wr.setCell ⟨bs k, k, none⟩ (.int .u8 1)) g n n bs (UniF (k + 1))) := by
        refine Lib.hid ((hM.out.set hlt hlt 1).congr (fun i j hi hj => ?_))
        unfold upd UniF
        by_cases e : i = k ∧ j = k
        · rw [if_pos e, if_pos ⟨by omega, by omega⟩]
        · rw [if_neg e]
          by_cases e2 : i = j ∧ i < k
          · rw [if_pos e2, if_pos ⟨e2.1, by omega⟩]
          · rw [if_neg e2, if_neg (by omega)]
      have HO := Lib.hid (own_same hown.out (w1 := wr.setCell ⟨bs k, k, none⟩ (.int .u8 1)) (heap_setCell_other wr _ _ _ (hM.out.ne hlt)))
      clear hM hown
      go_wp2
      go_roundg (n - (k + 1))
      case measure => omega
      case rel => exact ⟨k + 1, by omega, by go_num, HS, HO⟩
    · obtain rfl : k = n := by omega
      go_wp2
      go_ret2
      refine ⟨g, cap, bs, rfl, hM.out.congr (fun i j hi _ => ?_), hcap, hown.out⟩
      unfold unitE UniF
      by_cases e : i = j
      · rw [if_pos ⟨e, hi⟩, if_pos e]
      · rw [if_neg (fun h => e h.1), if_neg e]

end Go.Proofs.Ytccfnhocjiehnaa
