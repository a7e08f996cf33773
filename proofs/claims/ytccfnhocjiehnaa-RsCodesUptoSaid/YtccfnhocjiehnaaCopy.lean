/- Rows that are copied, one behind the other, into a matrix of the call's own. -/
import Derived.Test.YtccfnhocjiehnaaBlank
import Derived.Test.YtccfnhocjiehnaaRefB
import Derived.Test.YtccfnhocjiehnaaRight
namespace Go.Proofs.Ytccfnhocjiehnaa
open Go.RowKit
set_option linter.unusedVariables false
set_option linter.unusedSimpArgs false

def newsB (l : Nat) (f : Nat → Gf.E) : List Value := (List.range l).map fun j => vb (f j)
theorem newsB_len (l : Nat) (f : Nat → Gf.E) : (newsB l f).length = l := by simp [newsB]
theorem newsB_at {l : Nat} {f : Nat → Gf.E} {i : Nat} (hi : i < l) : (newsB l f)[i]? = some (vb (f i)) := by
  unfold newsB
  rw [List.getElem?_map, List.getElem?_range hi]; rfl
theorem newsB_one (l : Nat) (f : Nat → Gf.E) : ∀ u ∈ newsB l f, u.oneCell' = true := fun u hu => by
  obtain ⟨i, _, rfl⟩ := List.mem_map.1 hu
  rfl
theorem run_append_none (base c : Nat) (t ty e : TypeId) (i : TypeInfo) (size : Nat) {P : Program} {w : World} (ht : P.underlying t = some (.slice e)) (hi : P.info? e = some i)
    (v : Value) (n : Nat) (xs : List Value) (hown : w.ownsRow base e size v n xs) :
    (Builtin.append_ #[t, t] ty #[v, .slice none 0 c]).run P w = .ok v w := by
  rcases hown.2 with ⟨rfl, rfl⟩ | ⟨g, cap, cur, rfl, _, _, hnc, _⟩
  · simp [Builtin.append_, run_underlying ht, sizeOf, typeInfo, hi, Builtin.lenOf, Builtin.firstCells]
  · simp [Builtin.append_, run_underlying ht, sizeOf, typeInfo, hi, Builtin.lenOf, Builtin.firstCells, hnc, storeCells]
/-- append of a row of bytes, nil or not, to one of the call's own. -/
theorem wpList_append_row {w : World} {ops : Array Oper} {rest : List Oper} {o : Oper} {a : Act} {Q : Exit → Act → World → Prop} (hgd : o.guard = none) (s x : Operand)
    (ho : o.op = .call { callee := .builtin .append, args := #[s, x], argTypes := #[22, 22] })
    (base : Nat) (v : Value) (n : Nat) (xs : List Value) (hs : a.eval s = v) (hown : w.ownsRow base 5 1 v n xs)
    (A : Option Addr) (l c : Nat) (f : Nat → Gf.E) (hx : a.eval x = .slice A l c) (hr : RdB w A l f) (h63 : n + l ≤ 4611686018427387904) (hbytes : n + l ≤ 140737488355328) (hbase : base ≤ w.heap.size)
    (h : ∀ v' w', w'.ownsRow base 5 1 v' (n + l) (xs ++ newsB l f) → w.grownBy w' v.ownBlock → wpList Try.prog ops Q rest (a.put o.dst v') w') : wpList Try.prog ops Q (o :: rest) a w := by
  obtain ⟨i5, hi, hz0, hz1, hz2⟩ := info_parts info5
  cases A with
  | some ad =>
    refine wpList_append_own _ hgd s x 22 ho base 5 i5 (.int .u8 0) 1 1 Try.underlying22 hi hz0 hz1 hz2 rfl (by decide) v n xs hs hown ad l c (newsB l f) hx (by rw [newsB_len, Nat.mul_one]) (fun j u hj => ?_) (newsB_one l f) (by unfold maxLen; omega) (by omega) hbase (fun v' w' h1 h2 _ => h v' w' h1 h2)
    have hl : j < l := by
      have := (List.getElem?_eq_some_iff.1 hj).1
      rwa [newsB_len] at this
    rw [newsB_at hl] at hj
    injection hj with hj
    obtain ⟨ad', e, hc⟩ := hr.at_ hl
    injection e with e
    subst e
    rw [← hj]; exact hc
  | none =>
    have hl : l = 0 := Decidable.byContradiction fun hne => by
      obtain ⟨ad, e, _⟩ := hr (Nat.pos_of_ne_zero hne)
      cases e
    subst hl
    refine wpList_plain hgd fun K hK => ?_
    have hrun := run_append_none (P := Try.prog) (w := w) base c 22 o.type 5 i5 1 Try.underlying22 hi v n xs hown
    unfold Oper.wp
    simp [execOp, ho, resolve, invoke, builtin, hs, hx, hrun, Result.andThen]
    exact hK _ _ (h v w (by simpa [newsB] using hown) ⟨rfl, rfl, rfl, Nat.le_refl _, fun _ _ _ => rfl⟩)

structure CopyR (w wr : World) (k : Nat) (v : Value) (As : Nat → Option Addr) (cs : Nat → Nat) (L : Nat → Nat) (F : Nat → Nat → Gf.E) : Prop where
  own : wr.ownsRow w.heap.size 22 1 v k ((List.range k).map fun i => .slice (As i) (L i) (cs i))
  rows : ∀ i, i < k → L i ≤ cs i ∧ (0 < L i → ∃ b, As i = some ⟨b, 0, none⟩ ∧ w.heap.size ≤ b ∧ RowAt wr b 5 (L i) (fun j => vb (F i j)))
  inj : ∀ i j, i < k → j < k → i ≠ j → 0 < L i → 0 < L j → As i ≠ As j
  below : Below w.heap.size w wr
theorem CopyR.start (w wr : World) (L : Nat → Nat) (F : Nat → Nat → Gf.E) (hb : Below w.heap.size w wr) : CopyR w wr 0 (.slice none 0 0) (fun _ => none) (fun _ => 0) L F :=
  ⟨World.ownsRow_nil _ _ _ _, fun i hi => absurd hi (Nat.not_lt_zero _), fun i j hi => absurd hi (Nat.not_lt_zero _), hb⟩
theorem own_form {w : World} {base n : Nat} {e : TypeId} {size : Nat} {v : Value} {xs : List Value} (h : w.ownsRow base e size v n xs) : ∃ A c, v = .slice A n c ∧ n ≤ c := by
  rcases h.2 with ⟨rfl, rfl⟩ | ⟨g, cap, cur, rfl, _, _, h1, _⟩
  · exact ⟨_, _, rfl, Nat.le_refl _⟩
  · exact ⟨_, _, rfl, h1⟩
/-- One row more: it has been copied into x, which lies above what there was. -/
theorem CopyR.step {w wr w2 w4 : World} {k : Nat} {v v' x : Value} {As : Nat → Option Addr} {cs : Nat → Nat} {L : Nat → Nat} {F : Nat → Nat → Gf.E} {o : Obj} (h : CopyR w wr k v As cs L F)
    (hb : Below wr.heap.size wr w2) (hx : w2.ownsRow wr.heap.size 5 1 x (L k) (newsB (L k) (F k)))
    (hown : w4.ownsRow w.heap.size 22 1 v' (k + 1) ((List.range k).map (fun i => Value.slice (As i) (L i) (cs i)) ++ [x])) (hg : (w2.alloc o).grownBy w4 v.ownBlock) :
    ∃ As' cs', CopyR w w4 (k + 1) v' As' cs' L F := by
  obtain ⟨A, c, rfl, hc⟩ := own_form hx
  have hs := h.below.size
  have hs2 := hb.size
  have hown2 : (w2.alloc o).ownsRow w.heap.size 22 1 v k _ := (h.own.kept (row := none) ⟨hb.os, hb.tape, hb.output, hb.size, fun i hi _ => hb.block i hi⟩ (by cases v.ownBlock <;> simp)).alloc o
  have keep : ∀ {b m : Nat} {f : Nat → Value}, RowAt (w2.alloc o) b 5 m f → RowAt w4 b 5 m f := fun hr => hr.grown hg (own_typed hown2 hr (by decide))
  refine ⟨fun i => if i = k then A else As i, fun i => if i = k then c else cs i, ?_, fun i hi => ?_, fun i j hi hj hne h1 h2 => ?_, ?_⟩
  · rw [List.range_succ, List.map_append]
    have e1 : (List.range k).map (fun i => Value.slice (if i = k then A else As i) (L i) (if i = k then c else cs i)) = (List.range k).map (fun i => Value.slice (As i) (L i) (cs i)) :=
      List.map_congr_left (fun i hi => by have : ¬ i = k := by have := List.mem_range.1 hi; omega
                                          simp only [if_neg this])
    rw [e1]
    simpa using hown
  · by_cases e : i = k
    · subst e
      simp only [if_true]
      refine ⟨hc, fun h0 => ?_⟩
      obtain ⟨b, cap, hv, _, hr, hlo⟩ := RowAt.of_own (f := fun j => vb (F i j)) h0 hx (fun j hj => newsB_at hj)
      injection hv with hA
      exact ⟨b, hA, by omega, keep (hr.alloc o)⟩
    · simp only [if_neg e]
      refine ⟨(h.rows i (by omega)).1, fun h0 => ?_⟩
      obtain ⟨b, hA, hlo, hr⟩ := (h.rows i (by omega)).2 h0
      exact ⟨b, hA, hlo, keep ((hr.below hb).alloc o)⟩
  · have old : ∀ j, j < k → 0 < L j → A ≠ As j := fun j hj hl hA => by
      obtain ⟨b, hAb, _, hr⟩ := (h.rows j hj).2 hl
      have h0 : 0 < L k := Decidable.byContradiction fun hz => by
        have : L k = 0 := by omega
        rcases hx.2 with ⟨hv, _⟩ | ⟨g, cap, cur, hv, hg2, hgg, _⟩
        · injection hv with hA2; rw [hA2, hAb] at hA; cases hA
        · injection hv with hA2; rw [hA2, hAb] at hA; injection hA with hA; injection hA with hA; have := hr.lt; omega
      obtain ⟨b2, cap, hv, _, _, hlo⟩ := RowAt.of_own (f := fun j => vb (F k j)) h0 hx (fun j hj => newsB_at hj)
      injection hv with hA2
      rw [hA2, hAb] at hA
      injection hA with hA
      injection hA with hA
      have := hr.lt
      omega
    by_cases e1 : i = k <;> by_cases e2 : j = k
    · omega
    · rw [if_pos e1, if_neg e2]; exact old j (by omega) h2
    · rw [if_neg e1, if_pos e2]; exact fun e => old i (by omega) h1 e.symm
    · rw [if_neg e1, if_neg e2]; exact h.inj i j (by omega) (by omega) hne h1 h2
  · exact ((below_then h.below hs hb).alloc (by omega) o).grown hg (by simp; omega) (own_base h.own)
theorem CopyR.ownUp {w wr w2 : World} {k : Nat} {v : Value} {As : Nat → Option Addr} {cs : Nat → Nat} {L : Nat → Nat} {F : Nat → Nat → Gf.E} (h : CopyR w wr k v As cs L F) (hb : Below wr.heap.size wr w2) (o : Obj) :
    (w2.alloc o).ownsRow w.heap.size 22 1 v k ((List.range k).map fun i => .slice (As i) (L i) (cs i)) :=
  (h.own.kept (row := none) ⟨hb.os, hb.tape, hb.output, hb.size, fun i hi _ => hb.block i hi⟩ (by cases v.ownBlock <;> simp)).alloc o
theorem own_empty (w : World) (t : TypeId) : (w.alloc (.cells #[] t)).ownsRow w.heap.size t 1 (.slice (some ⟨w.heap.size, 0, none⟩) 0 0) 0 [] :=
  ⟨rfl, .inr ⟨w.heap.size, 0, #[], rfl, Nat.le_refl _, heap_alloc_new w _, Nat.le_refl _, by unfold maxLen; omega, rfl, rfl⟩⟩
theorem one_news (w : World) (x : Value) (t : TypeId) (hx : x.oneCell' = true) : ∀ j u, [x][j]? = some u → (w.alloc (.cells #[x] t)).cell? ((⟨w.heap.size, 0, none⟩ : Addr).add j) = some u := by
  intro j u hj
  match j, hj with
  | 0, hj =>
    simp at hj; subst hj
    rw [add_plain, World.cell?_alloc_at _ _ _ _ rfl]; rfl
theorem one_one (x : Value) (hx : x.oneCell' = true) : ∀ u ∈ [x], u.oneCell' = true := fun u hu => by
  have : u = x := by simpa using hu
  rw [this]; exact hx
/-- What the copy of one row leaves. -/
theorem row_copied {wr w1 : World} {v1 : Value} {l : Nat} {f : Nat → Gf.E} (hown : w1.ownsRow wr.heap.size 5 1 v1 (0 + l) ([] ++ newsB l f)) (hg : (wr.alloc (.cells #[] 5)).grownBy w1 (some wr.heap.size)) :
    ∃ A c, v1 = .slice A l c ∧ w1.ownsRow wr.heap.size 5 1 (.slice A l c) l (newsB l f) ∧ Below wr.heap.size wr w1 := by
  rw [Nat.zero_add, List.nil_append] at hown
  obtain ⟨A, c, rfl, _⟩ := own_form hown
  exact ⟨A, c, rfl, hown, (box_below wr _).grown hg (by simp) (fun k hk => by injection hk with hk; omega)⟩
/-- The copy, read. -/
theorem CopyR.rd {w wr : World} {k : Nat} {v : Value} {As : Nat → Option Addr} {cs : Nat → Nat} {L : Nat → Nat} {F : Nat → Nat → Gf.E} (h : CopyR w wr k v As cs L F) : ∃ A c, v = .slice A k c ∧ k ≤ c ∧ RdM wr A k L F := by
  obtain ⟨A, c, rfl, hc⟩ := own_form h.own
  refine ⟨A, c, rfl, hc, As, cs, fun h0 => ?_, fun i hi => ⟨(h.rows i hi).1, fun h0 => ?_⟩⟩
  · obtain ⟨b, cap, hv, _, hr, _⟩ := RowAt.of_own (f := fun i => .slice (As i) (L i) (cs i)) h0 h.own (fun i hi => by rw [List.getElem?_map, List.getElem?_range hi]; rfl)
    injection hv with hA
    subst hA
    exact hr.rd h0
  · obtain ⟨b, hA, _, hr⟩ := (h.rows i hi).2 h0
    rw [hA]
    exact hr.rd h0
end Go.Proofs.Ytccfnhocjiehnaa
