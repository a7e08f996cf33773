/- rs.New, Numbers; the reference's New. -/
import Derived.Test.YtccfnhocjiehnaaShape
import Derived.Test.YtccfnhocjiehnaaRefB
import Derived.Test.YtccfnhocjiehnaaRight
namespace Go.Proofs.Ytccfnhocjiehnaa
open Go.RowKit
set_option linter.unusedVariables false
set_option linter.unusedSimpArgs false

/-- A code lies in block b: k, m, Cauchy's rows. -/
def CodeR (w : World) (b k m : Nat) : Prop := w.cell? ⟨b, 0, none⟩ = some (.int .i64 k) ∧ w.cell? ⟨b, 1, none⟩ = some (.int .i64 m) ∧
  ∃ P pc, w.cell? ⟨b, 2, none⟩ = some (.slice P m pc) ∧ m ≤ pc ∧ (m = 0 → P = none ∧ pc = 0) ∧ RdM w P m (fun _ => k) (cauE k)
theorem CodeR.below {w w1 : World} {b k m : Nat} (h : CodeR w b k m) (hb : Below w.heap.size w w1) : CodeR w1 b k m := by
  obtain ⟨h1, h2, P, pc, h3, h4, h5, h6⟩ := h
  exact ⟨cell_below hb h1, cell_below hb h2, P, pc, cell_below hb h3, h4, h5, h6.below hb⟩
def newOk (k m : Int) : Bool := decide (1 ≤ k ∧ 0 ≤ m ∧ k + m ≤ 255)
theorem new_no (k m : Int) (w : World) (h : newOk k m = false) (h1 : -9223372036854775808 ≤ k) (h2 : -9223372036854775808 ≤ m) :
    Calls Try.prog 8 #[.int .i64 k, .int .i64 m] w fun e w' => e = .returned (.tuple #[.pointer none, .int .i64 1]) ∧ w = w' := by
  have h' : k < 1 ∨ m < 0 ∨ 255 < k + m := by
    unfold newOk at h
    have := of_decide_eq_false h
    omega
  clear h
  by_cases a1 : k < 1
  · clear h'
    go_enter Try.func8, Try.ntmps8
    go_wp2
    go_ret2
    exact ⟨rfl, rfl⟩
  · have a1 : 1 ≤ k := by omega
    by_cases a2 : m < 0
    · clear h'
      go_enter Try.func8, Try.ntmps8
      go_wp2
      go_ret2
      exact ⟨rfl, rfl⟩
    · have a2 : 0 ≤ m := by omega
      by_cases a3 : 255 < k
      · clear h'
        go_enter Try.func8, Try.ntmps8
        go_wp2
        go_ret2
        exact ⟨rfl, rfl⟩
      · have a3 : k ≤ 255 := by omega
        by_cases a4 : 255 < m
        · clear h'
          go_enter Try.func8, Try.ntmps8
          go_wp2
          go_ret2
          exact ⟨rfl, rfl⟩
        · have a4 : m ≤ 255 := by omega
          have a5 : 255 < k + m := by omega
          clear h'
          go_enter Try.func8, Try.ntmps8
          go_wp2
          go_ret2
          exact ⟨rfl, rfl⟩
theorem alloc_blk (w : World) (cs : Array Value) (t : TypeId) {w1 : World} (hb : Below (w.alloc (.cells cs t)).heap.size (w.alloc (.cells cs t)) w1) : w1.heap[w.heap.size]? = some (.cells cs t (0, 0)) := by
  rw [hb.block w.heap.size (by simp)]
  exact heap_alloc_new w _
def CauP (w : World) (P : Option Addr) (pc k m : Nat) : Prop := (m = 0 ∧ P = none ∧ pc = 0) ∨ (∃ g bs, 0 < m ∧ P = some ⟨g, 0, none⟩ ∧ m ≤ pc ∧ MatAt w g m k bs (cauE k))
theorem CauP.rd {w : World} {P : Option Addr} {pc k m : Nat} (h : CauP w P pc k m) : m ≤ pc ∧ (m = 0 → P = none ∧ pc = 0) ∧ RdM w P m (fun _ => k) (cauE k) := by
  rcases h with ⟨rfl, rfl, rfl⟩ | ⟨g, bs, h0, rfl, h1, h2⟩
  · exact ⟨Nat.le_refl _, fun _ => ⟨rfl, rfl⟩, fun _ => none, fun _ => 0, RdF.none_, fun i hi => absurd hi (Nat.not_lt_zero _)⟩
  · exact ⟨h1, fun h => by omega, h2.rd⟩
theorem MatAt.far {w : World} {g n m : Nat} {bs : Nat → Nat} {F : Nat → Nat → Gf.E} (h : MatAt w g n m bs F) {a : Addr} {cs : Array Value} {t : TypeId} (hb : w.heap[a.block]? = some (.cells cs t (0, 0))) (h1 : t ≠ 22) (h2 : t ≠ 5) (v : Value) : MatAt (w.setCell a v) g n m bs F := by
  have hr : RowAt w a.block t 0 (fun _ => v) := ⟨cs, hb, Nat.zero_le _, fun i hi => absurd hi (Nat.not_lt_zero _)⟩
  obtain ⟨c, h3, h4⟩ := h
  exact ⟨c, h3.setOther (h3.ne_ hr (fun e => h1 e.symm)) v, fun i hi => ⟨(h4 i hi).1, (h4 i hi).2.setOther ((h4 i hi).2.ne_ hr (fun e => h2 e.symm)) v⟩⟩
theorem CauP.far {w : World} {P : Option Addr} {pc k m : Nat} (h : CauP w P pc k m) {a : Addr} {cs : Array Value} {t : TypeId} (hb : w.heap[a.block]? = some (.cells cs t (0, 0))) (h1 : t ≠ 22) (h2 : t ≠ 5) (v : Value) : CauP (w.setCell a v) P pc k m := by
  rcases h with h | ⟨g, bs, h0, hp, h3, h4⟩
  · exact .inl h
  · exact .inr ⟨g, bs, h0, hp, h3, h4.far hb h1 h2 v⟩
theorem cauchy_any (k m : Nat) (w : World) (h1 : 1 ≤ k) (h2 : k + m ≤ 255) :
    Calls Try.prog 26 #[.int .i64 m, .int .i64 k] w fun e w' => ∃ P pc x, e = .returned (.tuple #[.slice P m pc, .int .i64 x]) ∧ CauP w' P pc k m ∧ Below w.heap.size w w' := by
  by_cases hm : m = 0
  · subst hm
    refine (cauchy_no (0 : Nat) k w (decide_eq_false (by omega)) (by omega) (by omega)).mono ?_
    rintro e w' ⟨rfl, hb⟩
    exact ⟨none, 0, 1, rfl, .inl ⟨rfl, rfl, rfl⟩, hb⟩
  · refine (cauchy_yes m k w (by omega) h1 (by omega)).mono ?_
    rintro e w' ⟨v, rfl, g, cap, bs, rfl, hcap, hM, _, _, _, hb⟩
    exact ⟨_, cap, 0, rfl, .inr ⟨g, bs, by omega, rfl, hcap, hM⟩, hb⟩
set_option maxHeartbeats 1000000 in
theorem new_yes (k m : Nat) (w : World) (h1 : 1 ≤ k) (h2 : k + m ≤ 255) :
    Calls Try.prog 8 #[.int .i64 k, .int .i64 m] w fun e w' => ∃ b : Nat, e = .returned (.tuple #[.pointer (some ⟨b, 0, none⟩), .int .i64 0]) ∧ CodeR w' b k m ∧ w.heap.size ≤ b ∧ Below w.heap.size w w' := by
  have a1 : (1 : Int) ≤ (k : Int) := by omega
  have a2 : (0 : Int) ≤ (m : Int) := by omega
  have a3 : (k : Int) ≤ 255 := by omega
  have a4 : (m : Int) ≤ 255 := by omega
  have a5 : (k : Int) + (m : Int) ≤ 255 := by omega
  go_enter Try.func8, Try.ntmps8
  go_wp2_with (fail)
  refine (cauchy_any k m _ h1 h2).mono ?_
  rintro e w1 ⟨P, pc, x, rfl, hP, hb⟩
  have hblk := alloc_blk w _ _ hb
  have hc : ∀ i, w1.cell? ⟨w.heap.size, i, none⟩ = _ := fun i => cell_of_row w1 w.heap.size i _ _ _ hblk
  have hf : ∀ i, w1.frozen? ⟨w.heap.size, i, none⟩ = false := fun i => frozen_of_row w1 w.heap.size i _ _ hblk
  have c2 := hc 2
  have f2 := hf 2
  simp at c2
  have hlt := block_lt_of_cell c2
  have HC := Lib.hid hc
  have HB := Lib.hid hb
  have HP := Lib.hid (hP.far (a := ⟨w.heap.size, 2, none⟩) hblk (by decide) (by decide) (.slice P m pc))
  clear hblk hc hf hb hP
  go_wp2
  go_ret2
  obtain ⟨p1, p2, p3⟩ := HP.out.rd
  refine ⟨w.heap.size, rfl, ⟨?_, ?_, P, pc, World.cell?_setCell_same _ _ _ c2, p1, p2, p3⟩, Nat.le_refl _, ((box_below w _).trans (HB.out.mono (by simp))).setCell (Nat.le_refl _) _⟩
  · rw [World.cell?_setCell_other _ _ _ _ (by simp), HC.out]; rfl
  · rw [World.cell?_setCell_other _ _ _ _ (by simp), HC.out]; rfl
theorem numbers_c (b k m : Nat) (w : World) (hc : CodeR w b k m) (h2 : k + m ≤ 255) :
    Calls Try.prog 17 #[.pointer (some ⟨b, 0, none⟩)] w fun e w' => e = .returned (.tuple #[.int .i64 k, .int .i64 m]) ∧ Drew w w' := by
  obtain ⟨h1, h3, _⟩ := hc
  go_enter Try.func17, Try.ntmps17
  go_wp2_with (fail)
  go_quiet (fail)
  go_wp2
  go_ret2
  exact ⟨rfl, by repeat (first | exact Drew.refl _ | apply Drew.step)⟩
end Go.Proofs.Ytccfnhocjiehnaa
