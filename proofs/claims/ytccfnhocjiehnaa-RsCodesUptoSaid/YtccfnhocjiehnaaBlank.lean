/- The reference's blank: rows of noughts. -/
import Derived.Test.YtccfnhocjiehnaaShape
namespace Go.Proofs.Ytccfnhocjiehnaa
open Go.RowKit
set_option linter.unusedVariables false
set_option linter.unusedSimpArgs false

structure BlankR (w wr : World) (c k : Nat) (v : Value) (bs : Nat → Nat) : Prop where
  own : wr.ownsRow w.heap.size 22 1 v k ((List.range k).map fun i => .slice (some ⟨bs i, 0, none⟩) c c)
  rows : ∀ i, i < k → RowAt wr (bs i) 5 c (fun _ => vb 0)
  lo : ∀ i, i < k → w.heap.size ≤ bs i
  inj : ∀ i j, i < k → j < k → bs i = bs j → i = j
  below : Below w.heap.size w wr

theorem own_typed {w : World} {base size n : Nat} {e : TypeId} {v : Value} {xs : List Value} (h : w.ownsRow base e size v n xs) {b m : Nat} {t : TypeId} {f : Nat → Value} (hr : RowAt w b t m f) (hne : e ≠ t) : some b ≠ v.ownBlock := by
  rcases h.2 with ⟨rfl, _⟩ | ⟨g, cap, cur, rfl, _, hh, _⟩
  · simp [Value.ownBlock]
  · intro he
    have he' : b = g := by simpa [Value.ownBlock] using he
    subst he'
    obtain ⟨c, hb, _, _⟩ := hr
    rw [hh] at hb
    injection hb with hb
    injection hb with _ ht
    exact hne ht
theorem own_base {w : World} {base size n : Nat} {e : TypeId} {v : Value} {xs : List Value} (h : w.ownsRow base e size v n xs) (k : Nat) (hk : v.ownBlock = some k) : base ≤ k := by
  rcases h.2 with ⟨rfl, _⟩ | ⟨g, cap, cur, rfl, hb, _⟩
  · simp [Value.ownBlock] at hk
  · have : g = k := by simpa [Value.ownBlock] using hk
    omega
theorem RowAt.grown {w w1 : World} {b n : Nat} {t : TypeId} {f : Nat → Value} {row : Option Nat} (h : RowAt w b t n f) (hg : w.grownBy w1 row) (hne : some b ≠ row) : RowAt w1 b t n f := h.of_block (hg.block b h.lt hne)

theorem BlankR.step {w wr w1 : World} {c k : Nat} {v v' : Value} {bs : Nat → Nat} (h : BlankR w wr c k v bs)
    (hown : w1.ownsRow w.heap.size 22 1 v' (k + 1) ((List.range k).map (fun i => Value.slice (some ⟨bs i, 0, none⟩) c c) ++ [.slice (some ⟨wr.heap.size, 0, none⟩) c c]))
    (o : Obj) (hg : ((wr.alloc (.cells (madeCells #[.int .u8 0] c) 5)).alloc o).grownBy w1 v.ownBlock) :
    BlankR w w1 c (k + 1) v' (fun i => if i = k then wr.heap.size else bs i) := by
  have hs := h.below.size
  have hnew : RowAt ((wr.alloc (.cells (madeCells #[.int .u8 0] c) 5)).alloc o) wr.heap.size 5 c (fun _ => vb 0) := (RowAt.of_is (World.rowIs_made wr (.int .u8 0) c 5)).alloc o
  have hown2 := (h.own.alloc (.cells (madeCells #[.int .u8 0] c) 5)).alloc o
  refine ⟨?_, fun i hi => ?_, fun i hi => ?_, fun i j hi hj he => ?_, ?_⟩
  · rw [List.range_succ, List.map_append]
    have e1 : (List.range k).map (fun i => Value.slice (some ⟨(fun i => if i = k then wr.heap.size else bs i) i, 0, none⟩) c c) = (List.range k).map (fun i => Value.slice (some ⟨bs i, 0, none⟩) c c) :=
      List.map_congr_left (fun i hi => by simp only [if_neg (show ¬ i = k by have := List.mem_range.1 hi; omega)])
    rw [e1]
    simpa using hown
  · by_cases e : i = k
    · subst e
      simp only [if_true]
      exact hnew.grown hg (own_typed hown2 hnew (by decide))
    · simp only [if_neg e]
      have hr := ((h.rows i (by omega)).alloc (.cells (madeCells #[.int .u8 0] c) 5)).alloc o
      exact hr.grown hg (own_typed hown2 hr (by decide))
  · by_cases e : i = k
    · simp only [if_pos e]; exact hs
    · simp only [if_neg e]; exact h.lo i (by omega)
  · by_cases e1 : i = k <;> by_cases e2 : j = k
    · omega
    · rw [if_pos e1, if_neg e2] at he
      have := (h.rows j (by omega)).lt
      omega
    · rw [if_neg e1, if_pos e2] at he
      have := (h.rows i (by omega)).lt
      omega
    · rw [if_neg e1, if_neg e2] at he
      exact h.inj i j (by omega) (by omega) he
  · exact ((h.below.alloc hs _).alloc (by simp; omega) o).grown hg (by simp; omega) (own_base h.own)

set_option maxRecDepth 100000 in
set_option maxHeartbeats 1000000 in
theorem blank_c (r c : Nat) (w : World) (hr0 : 0 < r) (hr : r ≤ 256) (hc : c ≤ 256) :
    Calls Try.prog 73 #[.int .i64 r, .int .i64 c] w fun e w' => ∃ v, e = .returned v ∧ NewMat w w' v r c (fun _ _ => 0) := by
  obtain ⟨i0, hi, hz0, hz1, hz2⟩ := info_parts info56
  have hmk2 := run_make_row' (P := Try.prog) 22 5 (.int .u8 0) 1 Try.underlying22 info5 rfl .i64 .i64 c (by omega) (by omega)
  have HI : Hid (BlankR w w c 0 (.slice none 0 0) (fun _ => 0)) := Lib.hid ⟨World.ownsRow_nil _ _ _ _, fun i hi => absurd hi (Nat.not_lt_zero _), fun i hi => absurd hi (Nat.not_lt_zero _), fun i j hi => absurd hi (Nat.not_lt_zero _), Below.refl _ _⟩
  go_enter Try.func73, Try.ntmps73
  go_wp2
  go_loopg [5, 6] r (fun kq v5 v6 wr => ∃ k : Nat, k + kq = r ∧ v6 = .int .i64 (k : Int) ∧ ∃ bs, Hid (BlankR w wr c k v5 bs))
  case atStart => exact ⟨0, by omega, rfl, _, HI⟩
  case round =>
    clear HI
    obtain ⟨k, hk, rfl, bs, HR⟩ := hrel
    by_cases hlt : k < r
    · have hsz := HR.out.below.size
      go_wp2_with (first | (at_builtin; refine wpList_append_own _ rfl _ _ 28 rfl w.heap.size 22 i0 (.slice none 0 0) 1 24 Try.underlying28 hi hz0 hz1 hz2 rfl (by decide) _ k _ rfl ((HR.out.own.alloc _).alloc _) ⟨wr.heap.size + 1, 0, none⟩ 1 1 [.slice (some ⟨wr.heap.size, 0, none⟩) c c] rfl rfl ?c1 ?c2 ?c3 ?c4 ?c5 ?_))
      case c1 =>
        intro j u hj
        match j, hj with
        | 0, hj => simp at hj; subst hj; simp [Addr.add]
      case c2 => intro u hu; simp at hu; subst hu; rfl
      case c3 => unfold maxLen; omega
      case c4 => omega
      case c5 => simp; omega
      intro v' w1 hown' hgrow _
      have HS := Lib.hid (HR.out.step hown' _ hgrow)
      clear hown' hgrow HR
      go_wp2
      go_roundg (r - (k + 1))
      case measure => omega
      case rel => exact ⟨k + 1, by omega, by go_num, _, HS⟩
    · obtain rfl : k = r := by omega
      go_wp2
      go_ret
      obtain ⟨ho, h1, h2, h3, hb⟩ := HR.out
      obtain ⟨b, cap, rfl, hcap, ho1, ho2⟩ := RowAt.of_own (f := fun i => .slice (some ⟨bs i, 0, none⟩) c c) hr0 ho (fun i hi => by rw [List.getElem?_map, List.getElem?_range hi]; rfl)
      exact ⟨_, rfl, b, cap, bs, rfl, hcap, ⟨fun _ => c, ho1, fun i hi => ⟨Nat.le_refl _, h1 i hi⟩⟩, ho2, h2, h3, hb⟩
end Go.Proofs.Ytccfnhocjiehnaa
