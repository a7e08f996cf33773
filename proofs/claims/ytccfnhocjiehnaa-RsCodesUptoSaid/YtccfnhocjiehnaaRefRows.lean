/- The reference's Rows. -/
import Derived.Test.YtccfnhocjiehnaaCopy
import Derived.Test.YtccfnhocjiehnaaRows2
namespace Go.Proofs.Ytccfnhocjiehnaa
open Go.RowKit
set_option linter.unusedVariables false
set_option linter.unusedSimpArgs false

theorem CopyR.new {w wr : World} {k m : Nat} {v : Value} {As : Nat → Option Addr} {cs : Nat → Nat} {L : Nat → Nat} {F : Nat → Nat → Gf.E} (h : CopyR w wr k v As cs L F) (hk : 0 < k) (hm : 0 < m) (hL : ∀ i, i < k → L i = m) : NewMat w wr v k m F := by
  obtain ⟨g, cap, rfl, hc, hr, hg⟩ := RowAt.of_own (f := fun i => .slice (As i) (L i) (cs i)) hk h.own (fun i hi => by rw [List.getElem?_map, List.getElem?_range hi]; rfl)
  have hb : ∀ i, ∃ b, i < k → As i = some ⟨b, 0, none⟩ ∧ w.heap.size ≤ b ∧ RowAt wr b 5 (L i) (fun j => vb (F i j)) := fun i => by
    by_cases hi : i < k
    · obtain ⟨b, hb⟩ := (h.rows i hi).2 (by rw [hL i hi]; exact hm)
      exact ⟨b, fun _ => hb⟩
    · exact ⟨0, fun x => absurd x hi⟩
  obtain ⟨bs, hbs⟩ := Classical.axiomOfChoice hb
  refine ⟨g, cap, bs, rfl, hc, ⟨cs, hr.congr (fun i hi => by rw [(hbs i hi).1, hL i hi]), fun i hi => ⟨by rw [← hL i hi]; exact (h.rows i hi).1, by rw [← hL i hi]; exact (hbs i hi).2.2⟩⟩, hg, fun i hi => (hbs i hi).2.1, fun i j hi hj he => ?_, h.below⟩
  refine Decidable.byContradiction fun hne => h.inj i j hi hj hne (by rw [hL i hi]; exact hm) (by rw [hL j hj]; exact hm) ?_
  rw [(hbs i hi).1, (hbs j hj).1, he]

/-- After k rows of Rows. -/
def RowsR (w wr : World) (n k : Nat) (v : Value) (L : Nat → Nat) (F : Nat → Nat → Gf.E) (f : Nat → Int) : Prop := (∃ As cs, CopyR w wr k v As cs (fun i => L (f i).toNat) (rowsF F f)) ∧ ∀ i, i < k → rowBad n (f i) = false

theorem rows_step {w wr w1 w2 : World} {n k q : Nat} {v v2 : Value} {As : Nat → Option Addr} {cs : Nat → Nat} {L : Nat → Nat} {F : Nat → Nat → Gf.E} {f : Nat → Int} {A1 : Option Addr} {c1 : Nat} {o : Obj}
    (hC : CopyR w wr k v As cs (fun i => L (f i).toNat) (rowsF F f)) (hB : ∀ i, i < k → rowBad n (f i) = false) (hg : rowBad n (f k) = false) (hq : f k = (q : Int)) (hb : Below wr.heap.size wr w1) (hr : w1.ownsRow wr.heap.size 5 1 (.slice A1 (L q) c1) (L q) (newsB (L q) (F q)))
    (hown : w2.ownsRow w.heap.size 22 1 v2 (k + 1) ((List.range k).map (fun i => Value.slice (As i) (L (f i).toNat) (cs i)) ++ [.slice A1 (L q) c1])) (hgr : (w1.alloc o).grownBy w2 v.ownBlock) : RowsR w w2 n (k + 1) v2 L F f := by
  have e : (f k).toNat = q := by omega
  refine ⟨hC.step hb ?_ hown hgr, fun i hi => ?_⟩
  · show w1.ownsRow _ _ 1 _ (L (f k).toNat) (newsB (L (f k).toNat) (fun j => F (f k).toNat j))
    rw [e]; exact hr
  · by_cases h : i = k
    · rw [h]; exact hg
    · exact hB i (by omega)

end Go.Proofs.Ytccfnhocjiehnaa
