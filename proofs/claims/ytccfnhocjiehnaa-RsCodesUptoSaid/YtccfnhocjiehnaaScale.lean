/- gf.scale and gf.plus; the closures of Inverse; both. -/
import Derived.Test.YtccfnhocjiehnaaTimes
import Derived.StillTailTactics
namespace Go.Proofs.Ytccfnhocjiehnaa
open Go.RowKit
set_option linter.unusedVariables false
set_option linter.unusedSimpArgs false

/-- From w to w1 nothing has been written but to blocks of S. -/
structure Chg (S : Nat → Prop) (w w1 : World) : Prop where
  os : w1.os = w.os
  tape : w1.tape = w.tape
  output : w1.output = w.output
  size : w.heap.size ≤ w1.heap.size
  block : ∀ i, i < w.heap.size → ¬ S i → w1.heap[i]? = w.heap[i]?
namespace Chg
variable {S T : Nat → Prop} {w w1 w2 : World}
theorem refl (S : Nat → Prop) (w : World) : Chg S w w := ⟨rfl, rfl, rfl, Nat.le_refl _, fun _ _ _ => rfl⟩
theorem trans (h : Chg S w w1) (k : Chg S w1 w2) : Chg S w w2 :=
  ⟨k.os.trans h.os, k.tape.trans h.tape, k.output.trans h.output, Nat.le_trans h.size k.size, fun i hi hs => (k.block i (Nat.lt_of_lt_of_le hi h.size) hs).trans (h.block i hi hs)⟩
theorem mono (h : Chg S w w1) (hs : ∀ i, S i → T i) : Chg T w w1 := ⟨h.os, h.tape, h.output, h.size, fun i hi ht => h.block i hi (fun x => ht (hs i x))⟩
theorem of_below (h : Below w.heap.size w w1) : Chg S w w1 := ⟨h.os, h.tape, h.output, h.size, fun i hi _ => h.block i hi⟩
theorem below {B : Nat} {w0 : World} (h : Chg S w w1) (hb : Below B w0 w) (hB : B ≤ w.heap.size) (hs : ∀ i, S i → B ≤ i) : Below B w0 w1 :=
  hb.trans ⟨h.os, h.tape, h.output, h.size, fun i hi => h.block i (by omega) (fun x => by have := hs i x; omega)⟩
theorem set (h : Chg S w w1) {a : Addr} (ha : S a.block) (v : Value) : Chg S w (w1.setCell a v) := by
  refine h.trans ⟨rfl, rfl, rfl, by simp, fun i hi hs => Below.heap_setCell w1 a v i (fun e => hs (e ▸ ha))⟩
theorem drewN (h : Chg S w w1) (n : Nat) : Chg S w (w1.drewN n) := ⟨h.os, h.tape, h.output, h.size, h.block⟩
end Chg
theorem RowAt.chg {S : Nat → Prop} {w w1 : World} {b n : Nat} {t : TypeId} {f : Nat → Value} (h : RowAt w b t n f) (hc : Chg S w w1) (hs : ¬ S b) : RowAt w1 b t n f := h.of_block (hc.block b h.lt hs)

set_option maxRecDepth 100000 in
set_option maxHeartbeats 1000000 in
theorem scale_c (b m c : Nat) (f : Nat → Gf.E) (x : Gf.E) (w : World) (hr : RowAt w b 5 m (fun j => vb (f j))) (hm : m ≤ 255) :
    Calls Try.prog 70 #[.slice (some ⟨b, 0, none⟩) m c, vb x] w fun e w' => e = .returned (.tuple #[]) ∧ RowAt w' b 5 m (fun j => vb (Gf.mul (f j) x)) ∧ Chg (· = b) w w' := by
  have HI : Hid (RowAt w b 5 m (fun j => vb (if j < 0 then Gf.mul (f j) x else f j)) ∧ Chg (· = b) w w) := Lib.hid ⟨hr, Chg.refl _ _⟩
  clear hr
  go_enter Try.func70, Try.ntmps70
  go_wp2
  go_loopg [7] m (fun kq v7 wr => ∃ k : Nat, k + kq = m ∧ v7 = .int .i64 (k : Int) ∧ Hid (RowAt wr b 5 m (fun j => vb (if j < k then Gf.mul (f j) x else f j)) ∧ Chg (· = b) w wr))
  case atStart => exact ⟨0, by omega, rfl, HI⟩
  case round =>
    clear HI
    obtain ⟨k, hk, rfl, HI⟩ := hrel
    by_cases hlt : k < m
    · have hc := HI.out.1.cell hlt
      simp only [Nat.lt_irrefl, if_false] at hc
      unfold vb at hc
      have hf := HI.out.1.frozen k
      have hk1 : (k : Int) < (m : Int) := by omega
      have hk0 : (0 : Int) ≤ (k : Int) := by omega
      have HS : ∀ q, Hid (RowAt ((wr.drewN q).setCell ⟨b, k, none⟩ (.int .u8 ((Gf.mul (f k) x).val : Int))) b 5 m (fun j => vb (if j < k + 1 then Gf.mul (f j) x else f j)) ∧ Chg (· = b) w ((wr.drewN q).setCell ⟨b, k, none⟩ (.int .u8 ((Gf.mul (f k) x).val : Int)))) := fun q => by
        refine Lib.hid ⟨((HI.out.1.drewN q).set k (vb (Gf.mul (f k) x))).congr (fun i hi => ?_), (HI.out.2.drewN q).set rfl _⟩
        by_cases e : i = k
        · subst e; simp
        · simp only [e, if_false]
          by_cases h1 : i < k
          · simp [h1, show i < k + 1 by omega]
          · simp [h1, show ¬ i < k + 1 by omega]
      clear HI
      go_wp2_with (first | (go_at_call 61; ((with_reducible refine (mul_v _ _ _).mono ?_)); rintro e w' ⟨rfl, rfl⟩))
      go_roundg (m - (k + 1))
      case measure => omega
      case rel => exact ⟨k + 1, by omega, by go_num, HS 0⟩
    · obtain rfl : k = m := by omega
      go_wp2
      go_end0
      exact ⟨rfl, HI.out.1.congr (fun i hi => by simp [hi]), HI.out.2⟩

set_option maxRecDepth 100000 in
set_option maxHeartbeats 1000000 in
theorem plus_c (b b2 m c c2 : Nat) (f g : Nat → Gf.E) (x : Gf.E) (w : World) (hr : RowAt w b 5 m (fun j => vb (f j))) (hr2 : RowAt w b2 5 m (fun j => vb (g j))) (hne : b ≠ b2) (hm : m ≤ 255) :
    Calls Try.prog 72 #[.slice (some ⟨b, 0, none⟩) m c, .slice (some ⟨b2, 0, none⟩) m c2, vb x] w fun e w' => e = .returned (.tuple #[]) ∧ RowAt w' b 5 m (fun j => vb (Gf.add (f j) (Gf.mul (g j) x))) ∧ Chg (· = b) w w' := by
  have HI : Hid (RowAt w b 5 m (fun j => vb (if j < 0 then Gf.add (f j) (Gf.mul (g j) x) else f j)) ∧ RowAt w b2 5 m (fun j => vb (g j)) ∧ Chg (· = b) w w) := Lib.hid ⟨hr, hr2, Chg.refl _ _⟩
  clear hr hr2
  go_enter Try.func72, Try.ntmps72
  go_wp2
  go_loopg [9] m (fun kq v9 wr => ∃ k : Nat, k + kq = m ∧ v9 = .int .i64 (k : Int) ∧ Hid (RowAt wr b 5 m (fun j => vb (if j < k then Gf.add (f j) (Gf.mul (g j) x) else f j)) ∧ RowAt wr b2 5 m (fun j => vb (g j)) ∧ Chg (· = b) w wr))
  case atStart => exact ⟨0, by omega, rfl, HI⟩
  case round =>
    clear HI
    obtain ⟨k, hk, rfl, HI⟩ := hrel
    by_cases hlt : k < m
    · have hc := HI.out.1.cell hlt
      simp only [Nat.lt_irrefl, if_false] at hc
      have hc2 := HI.out.2.1.cell hlt
      unfold vb at hc hc2
      have hf := HI.out.1.frozen k
      have hk1 : (k : Int) < (m : Int) := by omega
      have hk0 : (0 : Int) ≤ (k : Int) := by omega
      have HS : ∀ q, Hid (RowAt ((wr.drewN q).setCell ⟨b, k, none⟩ (.int .u8 ((Gf.add (f k) (Gf.mul (g k) x)).val : Int))) b 5 m (fun j => vb (if j < k + 1 then Gf.add (f j) (Gf.mul (g j) x) else f j)) ∧ RowAt ((wr.drewN q).setCell ⟨b, k, none⟩ (.int .u8 ((Gf.add (f k) (Gf.mul (g k) x)).val : Int))) b2 5 m (fun j => vb (g j)) ∧ Chg (· = b) w ((wr.drewN q).setCell ⟨b, k, none⟩ (.int .u8 ((Gf.add (f k) (Gf.mul (g k) x)).val : Int)))) := fun q => by
        refine Lib.hid ⟨((HI.out.1.drewN q).set k (vb (Gf.add (f k) (Gf.mul (g k) x)))).congr (fun i hi => ?_), (HI.out.2.1.drewN q).setOther (fun e => hne e.symm) _, (HI.out.2.2.drewN q).set rfl _⟩
        by_cases e : i = k
        · subst e; simp
        · simp only [e, if_false]
          by_cases h1 : i < k
          · simp [h1, show i < k + 1 by omega]
          · simp [h1, show ¬ i < k + 1 by omega]
      clear HI
      go_wp2
      refine wp_region_still_tail 14 (by kernel_rfl) (by kernel_rfl) ?_
      simp only [List.take_succ_cons, List.take_zero, List.drop_succ_cons, List.drop_zero]
      repeat (first | still_step | still_call ((mul_v _ _ _).mono fun _ _ h => ⟨h.1, h.2.symm⟩) | still_call ((add_v _ _ _).mono fun _ _ h => ⟨h.1, h.2.symm⟩))
      refine wpStill_nil ?_
      change wpList _ _ _ _ _ wr.drew
      go_wp2
      go_roundg (m - (k + 1))
      case measure => omega
      case rel => exact ⟨k + 1, by omega, by go_num, HS 1⟩
    · obtain rfl : k = m := by omega
      go_wp2
      go_end0
      exact ⟨rfl, HI.out.1.congr (fun i hi => by simp [hi]), HI.out.2.2⟩
end Go.Proofs.Ytccfnhocjiehnaa
