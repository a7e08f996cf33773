/- Shards that are read while one variable is written; rows that Repair lays one behind the other. -/
import Derived.Test.YtccfnhocjiehnaaWhole
import Derived.Test.YtccfnhocjiehnaaScale
namespace Go.Proofs.Ytccfnhocjiehnaa
open Go.RowKit
set_option linter.unusedVariables false
set_option linter.unusedSimpArgs false

/-- A matrix that is read in every world that differs by block B alone, and by what is new. -/
def Kept (B : Nat) (w : World) (A : Option Addr) (n : Nat) (L : Nat → Nat) (F : Nat → Nat → Gf.E) : Prop :=
  ∃ (Ar : Nat → Option Addr) (Cr : Nat → Nat), ∀ wr, Chg (· = B) w wr → RdF wr A n (fun i => .slice (Ar i) (L i) (Cr i)) ∧ ∀ i, i < n → L i ≤ Cr i ∧ RdB wr (Ar i) (L i) (F i)
theorem Kept.rd {B : Nat} {w : World} {A : Option Addr} {n : Nat} {L : Nat → Nat} {F : Nat → Nat → Gf.E} (h : Kept B w A n L F) : RdM w A n L F := by
  obtain ⟨Ar, Cr, h⟩ := h
  exact ⟨Ar, Cr, h w (Chg.refl _ _)⟩
theorem Kept.chg {B : Nat} {w w1 : World} {A : Option Addr} {n : Nat} {L : Nat → Nat} {F : Nat → Nat → Gf.E} (h : Kept B w A n L F) (hc : Chg (· = B) w w1) : Kept B w1 A n L F := by
  obtain ⟨Ar, Cr, h⟩ := h
  exact ⟨Ar, Cr, fun wr hr => h wr (hc.trans hr)⟩
theorem Kept.over {B : Nat} {w w1 : World} {A : Option Addr} {n : Nat} {L : Nat → Nat} {F : Nat → Nat → Gf.E} (h : Kept B w A n L F) (hb : Below w.heap.size w w1) : Kept B w1 A n L F := h.chg (Chg.of_below hb)
theorem Kept.input {B : Nat} {w w1 : World} {A : Option Addr} {n : Nat} {L : Nat → Nat} {F : Nat → Nat → Gf.E} (h : RdM w A n L F) (hb : Below w.heap.size w w1) (hB : w.heap.size ≤ B) : Kept B w1 A n L F := by
  obtain ⟨Ar, Cr, h1, h2⟩ := h
  refine ⟨Ar, Cr, fun wr hr => ?_⟩
  have hb2 : Below w.heap.size w wr := hr.below hb hb.size (fun i hi => by have : i = B := hi; omega)
  exact ⟨h1.below hb2, fun i hi => ⟨(h2 i hi).1, RdF.below (h2 i hi).2 hb2⟩⟩
theorem Kept.take {B : Nat} {w : World} {A : Option Addr} {n k : Nat} {L : Nat → Nat} {F : Nat → Nat → Gf.E} (h : Kept B w A n L F) (hk : k ≤ n) : Kept B w A k L F := by
  obtain ⟨Ar, Cr, h⟩ := h
  refine ⟨Ar, Cr, fun wr hr => ⟨fun h0 => ?_, fun i hi => (h wr hr).2 i (by omega)⟩⟩
  obtain ⟨ad, e, hc⟩ := (h wr hr).1 (by omega)
  exact ⟨ad, e, fun j hj => hc j (by omega)⟩
theorem Kept.len {B : Nat} {w : World} {A : Option Addr} {n : Nat} {L M : Nat → Nat} {F : Nat → Nat → Gf.E} (h : Kept B w A n L F) (e : ∀ i, i < n → L i = M i) : Kept B w A n M F := by
  obtain ⟨Ar, Cr, h⟩ := h
  refine ⟨Ar, Cr, fun wr hr => ⟨(h wr hr).1.congr (fun i hi => by rw [e i hi]), fun i hi => ?_⟩⟩
  rw [← e i hi]; exact (h wr hr).2 i hi
theorem Kept.mat {B : Nat} {w : World} {g n m : Nat} {bs : Nat → Nat} {F : Nat → Nat → Gf.E} (h : MatAt w g n m bs F) (hg : B < g) (hbs : ∀ i, i < n → B < bs i) : Kept B w (some ⟨g, 0, none⟩) n (fun _ => m) F := by
  obtain ⟨cs, h1, h2⟩ := h
  refine ⟨fun i => some ⟨bs i, 0, none⟩, cs, fun wr hr => ⟨(h1.chg hr (by omega)).rd, fun i hi => ⟨(h2 i hi).1, ((h2 i hi).2.chg hr (by have := hbs i hi; omega)).rd⟩⟩⟩
/-- Rows of two, one behind the other. -/
def bothF (D P : Nat → Nat → Gf.E) (k : Nat) : Nat → Nat → Gf.E := fun i => if i < k then D i else P (i - k)
theorem Kept.both {B base : Nat} {w w1 : World} {A' : Option Addr} {k m q c' : Nat} {D P : Nat → Nat → Gf.E} {Dr : Nat → Option Addr} {Dc bs cs : Nat → Nat} (hD : ∀ wr, Chg (· = B) w wr → ∀ i, i < k → q ≤ Dc i ∧ RdB wr (Dr i) q (D i))
    (hP : ∀ i, i < m → q ≤ cs i ∧ RowAt w (bs i) 5 q (fun j => vb (P i j))) (hbs : ∀ i, i < m → B < bs i) (hb : Below w.heap.size w w1) (hbase : B < base) (hkm : 0 < k + m)
    (hown : w1.ownsRow base 22 1 (.slice A' (k + m) c') (k + m) ((List.range k).map (fun i => Value.slice (Dr i) q (Dc i)) ++ rowVals m q bs cs)) : Kept B w1 A' (k + m) (fun _ => q) (bothF D P k) := by
  obtain ⟨g, cap, hv, hcap, hr, hg⟩ := RowAt.of_own (f := fun i => .slice (if i < k then Dr i else some ⟨bs (i - k), 0, none⟩) q (if i < k then Dc i else cs (i - k))) hkm hown (fun i hi => by
    by_cases hik : i < k
    · rw [List.getElem?_append_left (by simpa using hik), List.getElem?_map, List.getElem?_range hik]
      simp only [if_pos hik]; rfl
    · rw [List.getElem?_append_right (by simp; omega)]
      simp only [List.length_map, List.length_range, if_neg hik]
      exact rowVals_at (by omega))
  injection hv with hA
  subst hA
  refine ⟨fun i => if i < k then Dr i else some ⟨bs (i - k), 0, none⟩, fun i => if i < k then Dc i else cs (i - k), fun wr hw => ⟨(hr.chg hw (by omega)).rd, fun i hi => ?_⟩⟩
  have hw2 : Chg (· = B) w wr := (Chg.of_below hb).trans hw
  unfold bothF
  by_cases hik : i < k
  · simp only [if_pos hik]
    exact hD wr hw2 i hik
  · simp only [if_neg hik]
    obtain ⟨h1, h2⟩ := hP (i - k) (by omega)
    exact ⟨h1, (h2.chg hw2 (by have := hbs (i - k) (by omega); omega)).rd⟩

/-- The two variables of the results, in a later world. -/
structure RepR (w wq wr : World) (i q : Nat) (v : Value) (As : Nat → Option Addr) (cs : Nat → Nat) (F : Nat → Nat → Gf.E) : Prop where
  own : wr.ownsRow wq.heap.size 22 1 v i ((List.range i).map fun x => .slice (As x) q (cs x))
  rows : ∀ x, x < i → q ≤ cs x ∧ ∃ b, As x = some ⟨b, 0, none⟩ ∧ wq.heap.size ≤ b ∧ RowAt wr b 5 q (fun j => vb (F x j))
  inj : ∀ x y, x < i → y < i → x ≠ y → As x ≠ As y
  two : Two w wr v (.int .i64 0) 28 25
  chg : Chg (· = w.heap.size) wq wr
theorem Two.grown {w wr w4 : World} {x y : Value} {tx ty : TypeId} {row : Option Nat} (h : Two w wr x y tx ty) (hg : wr.grownBy w4 row) (h1 : some w.heap.size ≠ row) (h2 : some (w.heap.size + 1) ≠ row) (h3 : ∀ g, row = some g → w.heap.size ≤ g) : Two w w4 x y tx ty := by
  have a1 := (Array.getElem?_eq_some_iff.1 h.one).1
  have a2 := (Array.getElem?_eq_some_iff.1 h.two).1
  exact ⟨(hg.block _ a1 h1).trans h.one, (hg.block _ a2 h2).trans h.two, h.below.grown hg h.below.size h3⟩
theorem blk_ne_own {w : World} {base size n : Nat} {e t : TypeId} {v : Value} {xs : List Value} {b : Nat} {cs : Array Value} (h : w.ownsRow base e size v n xs) (hb : w.heap[b]? = some (.cells cs t (0, 0))) (hne : e ≠ t) : some b ≠ v.ownBlock :=
  own_typed h (m := 0) (f := fun _ => v) ⟨cs, hb, Nat.zero_le _, fun i hi => absurd hi (Nat.not_lt_zero _)⟩ hne
theorem RepR.step {w wq wr w3 w4 : World} {i q c3 : Nat} {v v4 : Value} {A3 : Option Addr} {As : Nat → Option Addr} {cs : Nat → Nat} {F : Nat → Nat → Gf.E} {o : Obj} (h : RepR w wq wr i q v As cs F) (hq : 0 < q) (hwq : w.heap.size + 1 < wq.heap.size)
    (hb : Below wr.heap.size wr w3) (hx : w3.ownsRow wr.heap.size 5 1 (.slice A3 q c3) q (newsB q (F i)))
    (hown : w4.ownsRow wq.heap.size 22 1 v4 (i + 1) ((List.range i).map (fun x => Value.slice (As x) q (cs x)) ++ [.slice A3 q c3])) (hg : (w3.alloc o).grownBy w4 v.ownBlock) :
    ∃ As' cs', RepR w wq (w4.setCell ⟨w.heap.size, 0, none⟩ v4) (i + 1) q v4 As' cs' F := by
  obtain ⟨b3, cap3, hv3, hc3, hr3, hlo3⟩ := RowAt.of_own (f := fun j => vb (F i j)) hq hx (fun j hj => newsB_at hj)
  injection hv3 with hA _ hcc
  subst hA hcc
  have hs := h.chg.size
  have hs3 := hb.size
  have hT3 := (h.two.over hb).over (box_below w3 o)
  have hown3 : (w3.alloc o).ownsRow wq.heap.size 22 1 v i _ := (own_below h.own hb).alloc o
  have hT4 := hT3.grown hg (blk_ne_own hown3 hT3.one (by decide)) (blk_ne_own hown3 hT3.two (by decide)) (fun g hg' => by have := own_base h.own g hg'; omega)
  have n4 := blk_ne_own hown hT4.one (by decide)
  have keep : ∀ {b n : Nat} {f : Nat → Value}, RowAt (w3.alloc o) b 5 n f → RowAt (w4.setCell ⟨w.heap.size, 0, none⟩ v4) b 5 n f := fun hr => by
    have h4 := hr.grown hg (own_typed hown3 hr (by decide))
    refine h4.setOther (a := ⟨w.heap.size, 0, none⟩) ?_ _
    exact h4.ne_ (b' := w.heap.size) (n' := 0) (t' := 28) (f' := fun _ => v4) ⟨_, hT4.one, Nat.zero_le _, fun i hi => absurd hi (Nat.not_lt_zero _)⟩ (by decide)
  have hs4 : (w3.alloc o).heap.size ≤ w4.heap.size := hg.size
  refine ⟨fun x => if x = i then some ⟨b3, 0, none⟩ else As x, fun x => if x = i then c3 else cs x, ?_, fun x hx2 => ?_, fun x y hx2 hy2 hne => ?_, hT4.set1 v4, ?_⟩
  · have e1 : (List.range i).map (fun x => Value.slice (if x = i then some (⟨b3, 0, none⟩ : Addr) else As x) q (if x = i then c3 else cs x)) = (List.range i).map (fun x => Value.slice (As x) q (cs x)) :=
      List.map_congr_left (fun x hx2 => by have : ¬ x = i := by have := List.mem_range.1 hx2; omega
                                           simp only [if_neg this])
    rw [List.range_succ, List.map_append, e1]
    have hk := hown.kept (w' := w4.setCell ⟨w.heap.size, 0, none⟩ v4) (row := some w.heap.size) ⟨rfl, rfl, rfl, by simp, fun j _ hj => heap_setCell_other w4 _ _ _ (fun e => hj (by rw [e]))⟩ (.inr (fun e => n4 e.symm))
    simpa using hk
  · by_cases e : x = i
    · subst e
      simp only [if_true]
      exact ⟨hc3, b3, rfl, by omega, keep (hr3.alloc o)⟩
    · simp only [if_neg e]
      obtain ⟨h1, b, h2, h3, h4⟩ := h.rows x (by omega)
      exact ⟨h1, b, h2, h3, keep ((h4.below hb).alloc o)⟩
  · have old : ∀ y, y < i → As y ≠ some ⟨b3, 0, none⟩ := fun y hy e => by
      obtain ⟨_, b, h2, _, h4⟩ := h.rows y hy
      rw [h2] at e
      injection e with e
      injection e with e
      have := h4.lt
      omega
    by_cases e1 : x = i
    · by_cases e2 : y = i
      · omega
      · simp only [if_pos e1, if_neg e2]
        exact fun e => old y (by omega) e.symm
    · by_cases e2 : y = i
      · simp only [if_neg e1, if_pos e2]
        exact old x (by omega)
      · simp only [if_neg e1, if_neg e2]
        exact h.inj x y (by omega) (by omega) hne
  · refine Chg.set (S := (· = w.heap.size)) ?_ rfl _
    have hc3 : Chg (· = w.heap.size) wq w3 := h.chg.trans (Chg.of_below hb)
    simp at hs4
    refine ⟨hg.os.trans hc3.os, hg.tape.trans hc3.tape, hg.output.trans hc3.output, by omega, fun j hj hn => ?_⟩
    rw [hg.block j (by simp; omega) (fun e => by have := own_base h.own j e.symm; omega), Below.heap_alloc w3 o j (by omega)]
    exact hc3.block j hj hn
/-- What is left when all rows are there. -/
theorem RepR.new {w wq wr : World} {n q : Nat} {v : Value} {As : Nat → Option Addr} {cs : Nat → Nat} {F : Nat → Nat → Gf.E} (h : RepR w wq wr n q v As cs F) (hn : 0 < n) (hwq : w.heap.size + 1 < wq.heap.size) :
    ∃ g cap bs, v = .slice (some ⟨g, 0, none⟩) n cap ∧ n ≤ cap ∧ MatAt wr g n q bs F ∧ w.heap.size + 1 < g ∧ (∀ i, i < n → w.heap.size + 1 < bs i) ∧ (∀ i j, i < n → j < n → bs i = bs j → i = j) := by
  obtain ⟨g, cap, rfl, hc, hr, hg⟩ := RowAt.of_own (f := fun i => .slice (As i) q (cs i)) hn h.own (fun i hi => by rw [List.getElem?_map, List.getElem?_range hi]; rfl)
  have hb : ∀ i, ∃ b, i < n → As i = some ⟨b, 0, none⟩ ∧ wq.heap.size ≤ b ∧ RowAt wr b 5 q (fun j => vb (F i j)) := fun i => by
    by_cases hi : i < n
    · obtain ⟨_, b, h1, h2, h3⟩ := h.rows i hi
      exact ⟨b, fun _ => ⟨h1, h2, h3⟩⟩
    · exact ⟨0, fun x => absurd x hi⟩
  obtain ⟨bs, hbs⟩ := Classical.axiomOfChoice hb
  refine ⟨g, cap, bs, rfl, hc, ⟨cs, hr.congr (fun i hi => by rw [(hbs i hi).1]), fun i hi => ⟨(h.rows i hi).1, (hbs i hi).2.2⟩⟩, by omega, fun i hi => by have := (hbs i hi).2.1; omega, fun i j hi hj he => ?_⟩
  refine Decidable.byContradiction fun hne => h.inj i j hi hj hne ?_
  rw [(hbs i hi).1, (hbs j hj).1, he]
end Go.Proofs.Ytccfnhocjiehnaa
