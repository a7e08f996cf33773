/- Words on memory that the walks of this seat share. -/
import Derived.Test.YtldndaimgfegnaaField
import Derived.Test.YtldndaimgfegnaaProg
import Derived.Below
import Derived.Deep.Draws
import Derived.Maps.AppendAt
import Derived.OwnWalk
import Derived.Laws.MakeOwn
import Derived.Laws.OwnMore
import Derived.Deep.OwnRows
import Derived.Deep.AppendLies
import Derived.Laws.BitsLemmas
import Derived.Laws.BitsAllLaws
import Derived.WalkKit
import Derived.WalkSpells
import Derived.KernelRfl
import Derived.Deep.LoopGhost
import Derived.Deep.QuietTactic
import Derived.BigQuiet
import Derived.Deep.DeepCutAuto
import Derived.Deep.RegionHeld3
import Derived.Lib.Hide
import Derived.Outline
namespace Go.Proofs.Ytldndaimgfegnaa
open Go.RowKit

/-- The world is the old one, some orders having been drawn. -/
structure Drew (w w' : World) : Prop where mk :: (out : ∃ n, w' = w.drewN n)
theorem Drew.refl (w : World) : Drew w w := ⟨⟨0, rfl⟩⟩
theorem Drew.step {w w' : World} (h : Drew w w') (n : Nat) : Drew w (w'.drewN n) := by
  obtain ⟨m, rfl⟩ := h
  exact ⟨⟨m + n, World.drewN_drewN ..⟩⟩
theorem Drew.trans {w w1 w2 : World} (h : Drew w w1) (h' : Drew w1 w2) : Drew w w2 := by
  obtain ⟨m, rfl⟩ := h'
  exact h.step m
theorem below_drewN {B : Nat} {w W : World} (h : Below B w W) (n : Nat) : Below B w (W.drewN n) := ⟨h.os, h.tape, h.output, h.size, h.block⟩
theorem Drew.below {w w' : World} (h : Drew w w') : Below w.heap.size w w' := by
  obtain ⟨n, rfl⟩ := h
  exact below_drewN (Below.refl _ _) n
theorem below_then {B : Nat} {w w1 w2 : World} (h : Below B w w1) (hB : B ≤ w1.heap.size) (k : Below w1.heap.size w1 w2) : Below B w w2 :=
  h.trans ⟨k.os, k.tape, k.output, k.size, fun i hi => k.block i (Nat.lt_of_lt_of_le hi hB)⟩
theorem cell_below {w w1 : World} (h : Below w.heap.size w w1) {a : Addr} {v : Value} (hc : w.cell? a = some v) : w1.cell? a = some v := (h.cell (World.block_lt_of_cell? w a hc)).trans hc

theorem info5 : (Try.prog.info? 5).map (fun i => (i.zero, i.size, i.bytes)) = some (some (.int .u8 0), 1, 1) := by kernel_rfl
theorem info56 : (Try.prog.info? 56).map (fun i => (i.zero, i.size, i.bytes)) = some (some (.slice none 0 0), 1, 24) := by kernel_rfl

/-- A byte as a value. -/
def vb (a : Gf.E) : Value := .int .u8 (a.val : Int)
attribute [go_sem] vb

/-! ### Cells that are read, by their index -/
def RdF (w : World) (A : Option Addr) (n : Nat) (f : Nat → Value) : Prop := 0 < n → ∃ ad, A = some ad ∧ ∀ j, j < n → w.cell? (ad.add j) = some (f j)
theorem RdF.at_ {w : World} {A : Option Addr} {n : Nat} {f : Nat → Value} (h : RdF w A n f) {j : Nat} (hj : j < n) : ∃ ad, A = some ad ∧ w.cell? (ad.add j) = some (f j) := by
  obtain ⟨ad, e, hc⟩ := h (by omega)
  exact ⟨ad, e, hc j hj⟩
theorem RdF.below {w w1 : World} {A : Option Addr} {n : Nat} {f : Nat → Value} (h : RdF w A n f) (hb : Below w.heap.size w w1) : RdF w1 A n f := fun hn => by
  obtain ⟨ad, e, hc⟩ := h hn
  exact ⟨ad, e, fun j hj => cell_below hb (hc j hj)⟩
theorem RdF.drewN {w : World} {A : Option Addr} {n : Nat} {f : Nat → Value} (h : RdF w A n f) (k : Nat) : RdF (w.drewN k) A n f := h.below (below_drewN (Below.refl _ _) k)
theorem RdF.congr {w : World} {A : Option Addr} {n : Nat} {f g : Nat → Value} (h : RdF w A n f) (e : ∀ j, j < n → f j = g j) : RdF w A n g := fun hn => by
  obtain ⟨ad, ea, hc⟩ := h hn
  exact ⟨ad, ea, fun j hj => by rw [hc j hj, e j hj]⟩
theorem RdF.none_ {w : World} {A : Option Addr} {f : Nat → Value} : RdF w A 0 f := fun h => absurd h (Nat.lt_irrefl 0)
theorem add_plain (g j : Nat) : (⟨g, 0, none⟩ : Addr).add j = ⟨g, j, none⟩ := by unfold Addr.add; split <;> simp_all
theorem RdF.of_row {w : World} {g n : Nat} {t : TypeId} {f : Nat → Value} (h : w.rowIs g t n f) : RdF w (some ⟨g, 0, none⟩) n f :=
  fun _ => ⟨_, rfl, fun j hj => by rw [add_plain]; exact h.cell hj⟩

/-- A row of bytes that is read. -/
def RdB (w : World) (A : Option Addr) (n : Nat) (f : Nat → Gf.E) : Prop := RdF w A n (fun j => vb (f j))

/-- A matrix that is read: n rows, row i of L i elements. -/
def RdM (w : World) (A : Option Addr) (n : Nat) (L : Nat → Nat) (F : Nat → Nat → Gf.E) : Prop :=
  ∃ (Ar : Nat → Option Addr) (Cr : Nat → Nat), RdF w A n (fun i => .slice (Ar i) (L i) (Cr i)) ∧ ∀ i, i < n → L i ≤ Cr i ∧ RdB w (Ar i) (L i) (F i)
theorem RdM.below {w w1 : World} {A : Option Addr} {n : Nat} {L : Nat → Nat} {F : Nat → Nat → Gf.E} (h : RdM w A n L F) (hb : Below w.heap.size w w1) : RdM w1 A n L F := by
  obtain ⟨Ar, Cr, h1, h2⟩ := h
  exact ⟨Ar, Cr, h1.below hb, fun i hi => ⟨(h2 i hi).1, (h2 i hi).2.below hb⟩⟩

/-- A matrix of the call's own: the outer row in block g, row i in block bs i. -/
def MatAt (w : World) (g : Nat) (n m : Nat) (bs : Nat → Nat) (F : Nat → Nat → Gf.E) : Prop :=
  w.rowIs g 56 n (fun i => .slice (some ⟨bs i, 0, none⟩) m m) ∧ ∀ i, i < n → w.rowIs (bs i) 5 m (fun j => vb (F i j))
theorem rowIs_below {w w1 : World} {b n : Nat} {t : TypeId} {f : Nat → Value} (h : w.rowIs b t n f) (hb : Below w.heap.size w w1) : w1.rowIs b t n f := h.of_block (hb.block b h.lt)
theorem MatAt.below {w w1 : World} {g n m : Nat} {bs : Nat → Nat} {F : Nat → Nat → Gf.E} (h : MatAt w g n m bs F) (hb : Below w.heap.size w w1) : MatAt w1 g n m bs F :=
  ⟨rowIs_below h.1 hb, fun i hi => rowIs_below (h.2 i hi) hb⟩
theorem MatAt.rd {w : World} {g n m : Nat} {bs : Nat → Nat} {F : Nat → Nat → Gf.E} (h : MatAt w g n m bs F) : RdM w (some ⟨g, 0, none⟩) n (fun _ => m) F :=
  ⟨fun i => some ⟨bs i, 0, none⟩, fun _ => m, RdF.of_row h.1, fun i hi => ⟨Nat.le_refl _, RdF.of_row (h.2 i hi)⟩⟩
end Go.Proofs.Ytldndaimgfegnaa
