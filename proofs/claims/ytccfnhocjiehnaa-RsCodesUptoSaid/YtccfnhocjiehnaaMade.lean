/- gf.made: a matrix, element by element, the elements told by a function value that only reads. -/
import Derived.Test.YtccfnhocjiehnaaGfA
namespace Go.Proofs.Ytccfnhocjiehnaa
open Go.RowKit
set_option linter.unusedVariables false
set_option linter.unusedSimpArgs false

structure MadeR (w wr : World) (r c k : Nat) (F : Nat → Nat → Gf.E) : Prop where
  size : wr.heap.size = w.heap.size + 1 + k
  below : Below w.heap.size w wr
  outer : wr.rowIs w.heap.size 22 r (fun i => if i < k then .slice (some ⟨w.heap.size + 1 + i, 0, none⟩) c c else .slice none 0 0)
  rows : ∀ i, i < k → wr.rowIs (w.heap.size + 1 + i) 5 c (fun j => vb (F i j))

structure InnerR (w wr : World) (r c k j : Nat) (F : Nat → Nat → Gf.E) : Prop where
  size : wr.heap.size = w.heap.size + 1 + (k + 1)
  below : Below w.heap.size w wr
  outer : wr.rowIs w.heap.size 22 r (fun i => if i < k + 1 then .slice (some ⟨w.heap.size + 1 + i, 0, none⟩) c c else .slice none 0 0)
  rows : ∀ i, i < k → wr.rowIs (w.heap.size + 1 + i) 5 c (fun j => vb (F i j))
  cur : wr.rowIs (w.heap.size + 1 + k) 5 c (fun q => if q < j then vb (F k q) else vb 0)

theorem InnerR.start {w wr : World} {r c k : Nat} {F : Nat → Nat → Gf.E} (h : MadeR w wr r c k F) (hk : k < r) :
    InnerR w ((wr.alloc (.cells (madeCells #[vb 0] c) 5)).setCell ⟨w.heap.size, k, none⟩ (.slice (some ⟨wr.heap.size, 0, none⟩) c c)) r c k 0 F := by
  have hs := h.size
  refine ⟨by simp [hs]; omega, (h.below.alloc (by omega) _).setCell (Nat.le_refl _) _, ?_, fun i hi => ?_, ?_⟩
  · refine ((h.outer.alloc _).set k _).congr (fun i hi => ?_)
    by_cases e : i = k
    · subst e; simp [hs]
    · simp only [e, if_false]
      by_cases h1 : i < k
      · simp [h1, show i < k + 1 by omega]
      · simp [h1, show ¬ i < k + 1 by omega]
  · exact ((h.rows i hi).alloc _).setOther (by simp; omega) _
  · have := (World.rowIs_made wr (vb 0) c 5).setOther (a := ⟨w.heap.size, k, none⟩) (by simp; omega) (.slice (some ⟨wr.heap.size, 0, none⟩) c c)
    rw [hs] at this
    have e : w.heap.size + 1 + k = w.heap.size + 1 + k := rfl
    exact (by rw [hs]; exact this.congr (fun i hi => by simp))

theorem InnerR.step {w wr : World} {r c k j : Nat} {F : Nat → Nat → Gf.E} (h : InnerR w wr r c k j F) (hk : k < r) (hj : j < c) (n : Nat) :
    InnerR w ((wr.drewN n).setCell ⟨w.heap.size + 1 + k, j, none⟩ (vb (F k j))) r c k (j + 1) F := by
  refine ⟨by simpa using h.size, (below_drewN h.below n).setCell (by simp; omega) _, ?_, fun i hi => ?_, ?_⟩
  · exact World.rowIs.setOther (w := wr.drewN n) h.outer (by simp; omega) _
  · exact World.rowIs.setOther (w := wr.drewN n) (h.rows i hi) (by simp; omega) _
  · refine (World.rowIs.set (w := wr.drewN n) h.cur j _).congr (fun i hi => ?_)
    by_cases e : i = j
    · subst e; simp
    · simp only [e, if_false]
      by_cases h1 : i < j
      · simp [h1, show i < j + 1 by omega]
      · simp [h1, show ¬ i < j + 1 by omega]

theorem InnerR.done {w wr : World} {r j k : Nat} {F : Nat → Nat → Gf.E} (h : InnerR w wr r j k j F) : MadeR w wr r j (k + 1) F := by
  refine ⟨h.size, h.below, h.outer, fun i hi => ?_⟩
  by_cases e : i = k
  · subst e; exact h.cur.congr (fun q hq => by simp [hq])
  · exact h.rows i (by omega)

set_option maxHeartbeats 1000000 in
theorem made_any (g : FuncId) (hent : ∀ args w, (callFunc g args).run Try.prog w = .ok (.enter g args) w) (cap : Array Value) (F : Nat → Nat → Gf.E) (r c : Nat) (w : World) (hr : r ≤ 256) (hc : c ≤ 256)
    (hcall : ∀ i j w', i < r → j < c → Below w.heap.size w w' → Calls Try.prog g (#[.int .i64 i, .int .i64 j] ++ cap) w' fun e w'' => e = .returned (vb (F i j)) ∧ Drew w' w'') :
    Calls Try.prog 46 #[.int .i64 r, .int .i64 c, .func (.func g) #[] cap] w fun e w' => e = .returned (.slice (some ⟨w.heap.size, 0, none⟩) r r) ∧ w'.heap.size = w.heap.size + 1 + r ∧ Below w.heap.size w w' ∧ MatAt w' w.heap.size r c (fun i => w.heap.size + 1 + i) F := by
  unfold vb at hcall
  have HC := Lib.hid hcall
  clear hcall
  have hmk := run_make_row' (P := Try.prog) 55 22 (.slice none 0 0) 24 Try.underlying55 info56 rfl .i64 .i64 r (by omega) (by omega)
  have hmk2 := run_make_row' (P := Try.prog) 22 5 (vb 0) 1 Try.underlying22 info5 rfl .i64 .i64 c (by omega) (by omega)
  go_enter Try.func46, Try.ntmps46
  go_wp2
  go_loopg [14] r (fun kq v14 wr => ∃ k : Nat, k + kq = r ∧ v14 = .int .i64 k ∧ Hid (MadeR w wr r c k F))
  case atStart => 
    refine ⟨0, by omega, rfl, Lib.hid ?_⟩
    exact ⟨by simp, (Below.refl _ _).alloc (Nat.le_refl _) _, (World.rowIs_made w _ r 22).congr (fun i hi => by simp), fun i hi => by omega⟩
  case round =>
    obtain ⟨k, hk, rfl, HR⟩ := hrel
    by_cases hlt : k < r
    · have hs0 := HR.out.size
      have hlt' : w.heap.size < wr.heap.size := by omega
      have hc0 : ∀ o, (wr.alloc o).cell? ⟨w.heap.size, k, none⟩ = some (.slice none 0 0) := fun o => by
        have h := (HR.out.outer.alloc o).cell hlt
        rw [if_neg (Nat.lt_irrefl k)] at h
        exact h
      have hf0 : ∀ o, (wr.alloc o).frozen? ⟨w.heap.size, k, none⟩ = false := fun o => (HR.out.outer.alloc o).frozen k
      have hI := InnerR.start HR.out hlt
      rw [hs0] at hI
      have HI := Lib.hid hI
      clear hI
      go_wp2
      go_loopg [27] c (fun kq v27 w2 => ∃ j : Nat, j + kq = c ∧ v27 = .int .i64 j ∧ Hid (InnerR w w2 r c k j F))
      case atStart => exact ⟨0, by omega, rfl, HI⟩
      case round =>
        obtain ⟨j, hj, rfl, HJ⟩ := hrel
        clear HI hc0 hf0
        rename_i wr0
        by_cases hlj : j < c
        · have hcell := HJ.out.outer.cell hlt
          rw [if_pos (Nat.lt_succ_self k)] at hcell
          have hsep : ∀ n v, ((wr.drewN n).setCell ⟨w.heap.size + 1 + k, j, none⟩ v).cell? ⟨w.heap.size, k, none⟩ = some (.slice (some ⟨w.heap.size + 1 + k, 0, none⟩) c c) := fun n v => (World.cell?_setCell_other _ _ _ _ (by first | (simp; done) | (simp; omega))).trans hcell
          have hcb := HJ.out.cur.cell hlj
          have hfb := HJ.out.cur.frozen j
          have hd : ∀ n, ∃ v, (wr.drewN n).cell? ⟨w.heap.size + 1 + k, j, none⟩ = some v := fun n => ⟨_, hcb⟩
          have hfd : ∀ n, (wr.drewN n).frozen? ⟨w.heap.size + 1 + k, j, none⟩ = false := fun n => hfb
          go_wp2
          go_region_held3 (fun w' => w'.cell? ⟨w.heap.size, k, none⟩ = some (.slice (some ⟨w.heap.size + 1 + k, 0, none⟩) c c)) (first | exact hsep _ _ | exact hcell) (first | ((refine (HC.out k j _ hlt hlj (by exact HJ.out.below.drew)).mono ?_); rintro e w5 ⟨rfl, ⟨n, rfl⟩⟩))
          all_goals go_wp2
          all_goals go_roundg (c - (j + 1))
          case measure => omega
          case rel => exact ⟨j + 1, by omega, by go_num, Lib.hid (InnerR.step HJ.out hlt hlj _)⟩
        · obtain rfl : j = c := by omega
          have HE := Lib.hid (InnerR.done HJ.out)
          clear HJ
          go_wp2
          go_roundg (r - (k + 1))
          case measure => omega
          case rel => exact ⟨k + 1, by omega, by go_num, HE⟩
    · obtain rfl : k = r := by omega
      go_wp2
      go_ret
      have h := HR.out
      exact ⟨rfl, h.size, h.below, fun _ => c, RowAt.of_is (h.outer.congr (fun i hi => by simp [hi])), fun i hi => ⟨Nat.le_refl _, RowAt.of_is (h.rows i hi)⟩⟩
end Go.Proofs.Ytccfnhocjiehnaa
