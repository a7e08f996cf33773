/- Words on memory that the walks of this seat share. -/
import Derived.Test.YtccfnhocjiehnaaField
import Derived.Test.YtccfnhocjiehnaaProg
import Derived.Below
import Derived.Deep.Draws
import Derived.Maps.AppendAt
import Derived.OwnWalk
import Derived.Laws.MakeOwn
import Derived.Laws.OwnMore
import Derived.Deep.OwnRows
import Derived.Deep.AppendLies
import Derived.Laws.BitsLemmas
import Derived.Laws.BitsAllLaws
import Derived.WalkKit
import Derived.WalkSpells
import Derived.KernelRfl
import Derived.Deep.LoopGhost
import Derived.Deep.QuietTactic
import Derived.BigQuiet
import Derived.Deep.DeepCutAuto
import Derived.Deep.RegionHeld3
import Derived.Lib.Hide
import Derived.Outline
namespace Go.Proofs.Ytccfnhocjiehnaa
set_option linter.unusedVariables false
open Go.RowKit

/-- The world is the old one, some orders having been drawn. -/
structure Drew (w w' : World) : Prop where mk :: (out : ∃ n, w' = w.drewN n)
theorem Drew.refl (w : World) : Drew w w := ⟨⟨0, rfl⟩⟩
theorem Drew.step {w w' : World} (h : Drew w w') (n : Nat) : Drew w (w'.drewN n) := by
  obtain ⟨m, rfl⟩ := h
  exact ⟨⟨m + n, World.drewN_drewN ..⟩⟩
theorem Drew.trans {w w1 w2 : World} (h : Drew w w1) (h' : Drew w1 w2) : Drew w w2 := by
  obtain ⟨m, rfl⟩ := h'
  exact h.step m
theorem below_drewN {B : Nat} {w W : World} (h : Below B w W) (n : Nat) : Below B w (W.drewN n) := ⟨h.os, h.tape, h.output, h.size, h.block⟩
theorem Drew.below {w w' : World} (h : Drew w w') : Below w.heap.size w w' := by
  obtain ⟨n, rfl⟩ := h
  exact below_drewN (Below.refl _ _) n
theorem below_then {B : Nat} {w w1 w2 : World} (h : Below B w w1) (hB : B ≤ w1.heap.size) (k : Below w1.heap.size w1 w2) : Below B w w2 :=
  h.trans ⟨k.os, k.tape, k.output, k.size, fun i hi => k.block i (Nat.lt_of_lt_of_le hi hB)⟩
theorem cell_below {w w1 : World} (h : Below w.heap.size w w1) {a : Addr} {v : Value} (hc : w.cell? a = some v) : w1.cell? a = some v := (h.cell (World.block_lt_of_cell? w a hc)).trans hc

theorem info5 : (Try.prog.info? 5).map (fun i => (i.zero, i.size, i.bytes)) = some (some (.int .u8 0), 1, 1) := by kernel_rfl
theorem info56 : (Try.prog.info? 22).map (fun i => (i.zero, i.size, i.bytes)) = some (some (.slice none 0 0), 1, 24) := by kernel_rfl

theorem Drew.cell {w w' : World} (h : Drew w w') {a : Addr} {v : Value} (hc : w.cell? a = some v) : w'.cell? a = some v := cell_below h.below hc

/-- A byte as a value. -/
def vb (a : Gf.E) : Value := .int .u8 (a.val : Int)
attribute [go_sem] vb

def byteE (x : Int) : Gf.E := ⟨(x % 256).toNat, by omega⟩
theorem byteE_val (x : Int) : ((byteE x).val : Int) = x % 256 := by
  show (((x % 256).toNat : Nat) : Int) = _
  omega
theorem byteE_nat {a : Nat} (h : a < 256) : byteE a = ⟨a, h⟩ := by
  apply Fin.ext
  show ((a : Int) % 256).toNat = a
  omega

/-! ### Cells that are read, by their index -/
def RdF (w : World) (A : Option Addr) (n : Nat) (f : Nat → Value) : Prop := 0 < n → ∃ ad, A = some ad ∧ ∀ j, j < n → w.cell? (ad.add j) = some (f j)
theorem RdF.at_ {w : World} {A : Option Addr} {n : Nat} {f : Nat → Value} (h : RdF w A n f) {j : Nat} (hj : j < n) : ∃ ad, A = some ad ∧ w.cell? (ad.add j) = some (f j) := by
  obtain ⟨ad, e, hc⟩ := h (by omega)
  exact ⟨ad, e, hc j hj⟩
theorem RdF.below {w w1 : World} {A : Option Addr} {n : Nat} {f : Nat → Value} (h : RdF w A n f) (hb : Below w.heap.size w w1) : RdF w1 A n f := fun hn => by
  obtain ⟨ad, e, hc⟩ := h hn
  exact ⟨ad, e, fun j hj => cell_below hb (hc j hj)⟩
theorem RdF.drewN {w : World} {A : Option Addr} {n : Nat} {f : Nat → Value} (h : RdF w A n f) (k : Nat) : RdF (w.drewN k) A n f := h.below (below_drewN (Below.refl _ _) k)
theorem RdF.congr {w : World} {A : Option Addr} {n : Nat} {f g : Nat → Value} (h : RdF w A n f) (e : ∀ j, j < n → f j = g j) : RdF w A n g := fun hn => by
  obtain ⟨ad, ea, hc⟩ := h hn
  exact ⟨ad, ea, fun j hj => by rw [hc j hj, e j hj]⟩
theorem RdF.none_ {w : World} {A : Option Addr} {f : Nat → Value} : RdF w A 0 f := fun h => absurd h (Nat.lt_irrefl 0)
theorem add_plain (g j : Nat) : (⟨g, 0, none⟩ : Addr).add j = ⟨g, j, none⟩ := by unfold Addr.add; split <;> simp_all
theorem RdF.of_row {w : World} {g n : Nat} {t : TypeId} {f : Nat → Value} (h : w.rowIs g t n f) : RdF w (some ⟨g, 0, none⟩) n f :=
  fun _ => ⟨_, rfl, fun j hj => by rw [add_plain]; exact h.cell hj⟩

/-- A row of bytes that is read. -/
def RdB (w : World) (A : Option Addr) (n : Nat) (f : Nat → Gf.E) : Prop := RdF w A n (fun j => vb (f j))

/-- A matrix that is read: n rows, row i of L i elements. -/
def RdM (w : World) (A : Option Addr) (n : Nat) (L : Nat → Nat) (F : Nat → Nat → Gf.E) : Prop :=
  ∃ (Ar : Nat → Option Addr) (Cr : Nat → Nat), RdF w A n (fun i => .slice (Ar i) (L i) (Cr i)) ∧ ∀ i, i < n → L i ≤ Cr i ∧ RdB w (Ar i) (L i) (F i)
theorem RdM.below {w w1 : World} {A : Option Addr} {n : Nat} {L : Nat → Nat} {F : Nat → Nat → Gf.E} (h : RdM w A n L F) (hb : Below w.heap.size w w1) : RdM w1 A n L F := by
  obtain ⟨Ar, Cr, h1, h2⟩ := h
  exact ⟨Ar, Cr, h1.below hb, fun i hi => ⟨(h2 i hi).1, (h2 i hi).2.below hb⟩⟩

/-- Block b begins with n cells of type t, f; none is frozen. -/
def RowAt (w : World) (b : Nat) (t : TypeId) (n : Nat) (f : Nat → Value) : Prop := ∃ c : Array Value, w.heap[b]? = some (.cells c t (0, 0)) ∧ n ≤ c.size ∧ ∀ i, i < n → c[i]? = some (f i)
namespace RowAt
variable {w w1 : World} {b n : Nat} {t : TypeId} {f g : Nat → Value}
theorem of_is (h : w.rowIs b t n f) : RowAt w b t n f := by
  obtain ⟨c, h1, h2, h3⟩ := h
  exact ⟨c, h1, by omega, h3⟩
theorem cell (h : RowAt w b t n f) {i : Nat} (hi : i < n) : w.cell? ⟨b, i, none⟩ = some (f i) := by
  obtain ⟨c, hb, _, hc⟩ := h
  simp [World.cell?, hb, hc i hi]
theorem frozen (h : RowAt w b t n f) (i : Nat) : w.frozen? ⟨b, i, none⟩ = false := by
  obtain ⟨c, hb, _, _⟩ := h
  simp [World.frozen?, hb]
theorem lt (h : RowAt w b t n f) : b < w.heap.size := by
  obtain ⟨c, hb, _, _⟩ := h
  exact (Array.getElem?_eq_some_iff.1 hb).1
theorem congr (h : RowAt w b t n f) (e : ∀ i, i < n → f i = g i) : RowAt w b t n g := by
  obtain ⟨c, hb, hn, hc⟩ := h
  exact ⟨c, hb, hn, fun i hi => by rw [hc i hi, e i hi]⟩
theorem of_block (h : RowAt w b t n f) (e : w1.heap[b]? = w.heap[b]?) : RowAt w1 b t n f := by
  obtain ⟨c, hb, hn, hc⟩ := h
  exact ⟨c, e.trans hb, hn, hc⟩
theorem set (h : RowAt w b t n f) (i : Nat) (v : Value) : RowAt (w.setCell ⟨b, i, none⟩ v) b t n (fun j => if j = i then v else f j) := by
  obtain ⟨c, hb, hn, hc⟩ := h
  refine ⟨c.setIfInBounds i v, ?_, by simpa using hn, fun j hj => ?_⟩
  · simp [World.setCell, Array.getElem?_modify, hb]
  · rw [Array.getElem?_setIfInBounds]
    by_cases e : j = i
    · subst e
      simp [show j < c.size by omega]
    · rw [if_neg (fun h => e h.symm)]
      show c[j]? = some (if j = i then v else f j)
      rw [if_neg e]
      exact hc j hj
theorem setOther (h : RowAt w b t n f) {a : Addr} (ha : b ≠ a.block) (v : Value) : RowAt (w.setCell a v) b t n f := h.of_block (Below.heap_setCell w a v b ha)
theorem alloc (h : RowAt w b t n f) (o : Obj) : RowAt (w.alloc o) b t n f := h.of_block (Below.heap_alloc w o b h.lt)
theorem drewN (h : RowAt w b t n f) (k : Nat) : RowAt (w.drewN k) b t n f := h
theorem below (h : RowAt w b t n f) (hb : Below w.heap.size w w1) : RowAt w1 b t n f := h.of_block (hb.block b h.lt)
theorem rd (h : RowAt w b t n f) : RdF w (some ⟨b, 0, none⟩) n f := fun _ => ⟨_, rfl, fun j hj => by rw [add_plain]; exact h.cell hj⟩
theorem ne_ {b' n' : Nat} {t' : TypeId} {f' : Nat → Value} (h : RowAt w b t n f) (h' : RowAt w b' t' n' f') (hne : t ≠ t') : b ≠ b' := by
  rintro rfl
  obtain ⟨c, hb, _, _⟩ := h
  obtain ⟨c', hb', _, _⟩ := h'
  rw [hb] at hb'
  injection hb' with hb'
  injection hb' with _ ht
  exact hne ht
theorem of_own {base n : Nat} {v : Value} {xs : List Value} (hn : 0 < n) (h : w.ownsRow base t 1 v n xs) (hx : ∀ i, i < n → xs[i]? = some (f i)) : ∃ b cap, v = .slice (some ⟨b, 0, none⟩) n cap ∧ n ≤ cap ∧ RowAt w b t n f ∧ base ≤ b := by
  rcases h.2 with ⟨_, h1⟩ | ⟨g, cap, cur, h1, h2, h3, h4, _, h5, h6⟩
  · omega
  · refine ⟨g, cap, h1, h4, ⟨cur, h3, by omega, fun i hi => ?_⟩, h2⟩
    have := hx i hi
    rw [← h6, List.getElem?_take, if_pos (by omega)] at this
    rw [← this]; simp
end RowAt

/-- A matrix of the call's own: the outer row in block g, row i in block bs i. -/
def MatAt (w : World) (g : Nat) (n m : Nat) (bs : Nat → Nat) (F : Nat → Nat → Gf.E) : Prop :=
  ∃ cs : Nat → Nat, RowAt w g 22 n (fun i => .slice (some ⟨bs i, 0, none⟩) m (cs i)) ∧ ∀ i, i < n → m ≤ cs i ∧ RowAt w (bs i) 5 m (fun j => vb (F i j))
theorem MatAt.below {w w1 : World} {g n m : Nat} {bs : Nat → Nat} {F : Nat → Nat → Gf.E} (h : MatAt w g n m bs F) (hb : Below w.heap.size w w1) : MatAt w1 g n m bs F := by
  obtain ⟨cs, h1, h2⟩ := h
  exact ⟨cs, h1.below hb, fun i hi => ⟨(h2 i hi).1, (h2 i hi).2.below hb⟩⟩
theorem MatAt.rd {w : World} {g n m : Nat} {bs : Nat → Nat} {F : Nat → Nat → Gf.E} (h : MatAt w g n m bs F) : RdM w (some ⟨g, 0, none⟩) n (fun _ => m) F := by
  obtain ⟨cs, h1, h2⟩ := h
  exact ⟨fun i => some ⟨bs i, 0, none⟩, cs, h1.rd, fun i hi => ⟨(h2 i hi).1, (h2 i hi).2.rd⟩⟩

/-! ### Regions that draw their order, whose calls make memory but tell the same in every world above one: one walk in the order of the text -/
/-- A world above w: what was in w is as it was. -/
structure Over (w : World) where
  w1 : World
  h : Below w.heap.size w w1
instance overThere (w : World) : Nonempty (Over w) := ⟨⟨w, Below.refl _ _⟩⟩
theorem Over.cell {w : World} (x : Over w) {a : Addr} {v : Value} (hc : w.cell? a = some v) : x.w1.cell? a = some v := cell_below x.h hc
theorem Over.call {P : Program} {f : FuncId} {args : Array Value} {w : World} (x : Over w) {v : Value} (h : Calls P f args x.w1 fun e w' => e = .returned v ∧ Below x.w1.heap.size x.w1 w') :
    Calls P f args x.w1 fun e w' => e = .returned v ∧ ∃ y : Over w, w' = y.w1 :=
  h.mono fun e w' ⟨he, hb⟩ => ⟨he, ⟨w', below_then x.h x.h.size hb⟩, rfl⟩
theorem wp_region_over {P : Program} {id : Nat} {Q : Exit → Act → World → Prop} {a : Act} {w : World} {l : List Oper} (w0 : World) (hm : P.follows .mixedOrders = true) (hB : Region.lexB .any l.toArray = true) (h0 : Below w0.heap.size w0 w)
    (h : wpQuiet P l.toArray (fun w' => ∃ x : Over w0, w' = x.w1) (fun a' => ∀ w', (∃ x : Over w0, w' = x.w1) → Q .normal a' w') l a) : (Code.region id l.toArray true).wp P Q a w :=
  wp_region_quiet (C := fun w' => ∃ x : Over w0, w' = x.w1) hm hB ⟨⟨_, h0.drew⟩, rfl⟩ (by simpa using h)
end Go.Proofs.Ytccfnhocjiehnaa
