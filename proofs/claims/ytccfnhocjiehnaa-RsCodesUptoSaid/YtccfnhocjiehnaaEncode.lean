/- rs.Encode. -/
import Derived.Test.YtccfnhocjiehnaaParity
import Derived.Test.YtccfnhocjiehnaaSplit
namespace Go.Proofs.Ytccfnhocjiehnaa
open Go.RowKit
set_option linter.unusedVariables false
set_option linter.unusedSimpArgs false

/-- A matrix's rows as values. -/
def rowVals (m q : Nat) (bs cs : Nat → Nat) : List Value := (List.range m).map fun i => .slice (some ⟨bs i, 0, none⟩) q (cs i)
theorem rowVals_len (m q : Nat) (bs cs : Nat → Nat) : (rowVals m q bs cs).length = m := by simp [rowVals]
theorem rowVals_at {m q i : Nat} {bs cs : Nat → Nat} (h : i < m) : (rowVals m q bs cs)[i]? = some (.slice (some ⟨bs i, 0, none⟩) q (cs i)) := by
  unfold rowVals
  rw [List.getElem?_map, List.getElem?_range h]; rfl
theorem rowVals_one (m q : Nat) (bs cs : Nat → Nat) : ∀ u ∈ rowVals m q bs cs, u.oneCell' = true := fun u hu => by
  obtain ⟨i, _, rfl⟩ := List.mem_map.1 hu
  rfl
/-- Rows of a matrix behind copied rows. -/
theorem CopyR.more {w wr w2 w4 : World} {k m q : Nat} {v v' : Value} {As : Nat → Option Addr} {cs bs cs2 : Nat → Nat} {F P : Nat → Nat → Gf.E} (h : CopyR w wr k v As cs (fun _ => q) F) (hk : 0 < k) (hq : 0 < q)
    (hrow : ∀ i, i < m → q ≤ cs2 i ∧ RowAt w2 (bs i) 5 q (fun j => vb (P i j))) (hlo : ∀ i, i < m → wr.heap.size ≤ bs i) (hinj : ∀ i j, i < m → j < m → bs i = bs j → i = j) (hb : Below wr.heap.size wr w2)
    (hown : w4.ownsRow w.heap.size 22 1 v' (k + m) ((List.range k).map (fun i => Value.slice (As i) q (cs i)) ++ rowVals m q bs cs2)) (hg : w2.grownBy w4 v.ownBlock) :
    NewMat w w4 v' (k + m) q (fun i => if i < k then F i else P (i - k)) := by
  have hs := h.below.size
  have hown2 : w2.ownsRow w.heap.size 22 1 v k _ := h.own.kept (row := none) ⟨hb.os, hb.tape, hb.output, hb.size, fun i hi _ => hb.block i hi⟩ (by cases v.ownBlock <;> simp)
  have keep : ∀ {b n : Nat} {f : Nat → Value}, RowAt w2 b 5 n f → RowAt w4 b 5 n f := fun hr => hr.grown hg (own_typed hown2 hr (by decide))
  have hAs : ∀ i, ∃ b, i < k → As i = some ⟨b, 0, none⟩ ∧ w.heap.size ≤ b ∧ b < wr.heap.size ∧ RowAt w4 b 5 q (fun j => vb (F i j)) := fun i => by
    by_cases hi : i < k
    · obtain ⟨b, h1, h2, h3⟩ := (h.rows i hi).2 hq
      exact ⟨b, fun _ => ⟨h1, h2, h3.lt, keep (h3.below hb)⟩⟩
    · exact ⟨0, fun x => absurd x hi⟩
  obtain ⟨b0, hb0⟩ := Classical.axiomOfChoice hAs
  have e : ∀ i, i < k + m → ((List.range k).map (fun i => Value.slice (As i) q (cs i)) ++ rowVals m q bs cs2)[i]? = some (.slice (some ⟨if i < k then b0 i else bs (i - k), 0, none⟩) q (if i < k then cs i else cs2 (i - k))) := fun i hi => by
    by_cases hik : i < k
    · rw [List.getElem?_append_left (by simpa using hik), List.getElem?_map, List.getElem?_range hik]
      simp only [Option.map_some, if_pos hik, (hb0 i hik).1]
    · rw [List.getElem?_append_right (by simp; omega)]
      simp only [List.length_map, List.length_range, if_neg hik]
      exact rowVals_at (by omega)
  obtain ⟨g, cap, rfl, hc, hr, hg2⟩ := RowAt.of_own (f := fun i => .slice (some ⟨if i < k then b0 i else bs (i - k), 0, none⟩) q (if i < k then cs i else cs2 (i - k))) (by omega) hown e
  refine ⟨g, cap, fun i => if i < k then b0 i else bs (i - k), rfl, hc, ⟨fun i => if i < k then cs i else cs2 (i - k), hr, fun i hi => ?_⟩, hg2, fun i hi => ?_, fun i j hi hj he => ?_, ?_⟩
  · by_cases hik : i < k
    · simp only [if_pos hik]
      exact ⟨(h.rows i hik).1, (hb0 i hik).2.2.2⟩
    · simp only [if_neg hik]
      obtain ⟨h1, h2⟩ := hrow (i - k) (by omega)
      exact ⟨h1, keep h2⟩
  · by_cases hik : i < k
    · simp only [if_pos hik]; exact (hb0 i hik).2.1
    · simp only [if_neg hik]; have := hlo (i - k) (by omega); omega
  · by_cases hik : i < k
    · by_cases hjk : j < k
      · simp only [if_pos hik, if_pos hjk] at he
        refine Decidable.byContradiction fun hne => h.inj i j hik hjk hne hq hq ?_
        rw [(hb0 i hik).1, (hb0 j hjk).1, he]
      · simp only [if_pos hik, if_neg hjk] at he
        have := (hb0 i hik).2.2.1
        have := hlo (j - k) (by omega)
        omega
    · by_cases hjk : j < k
      · simp only [if_neg hik, if_pos hjk] at he
        have := (hb0 j hjk).2.2.1
        have := hlo (i - k) (by omega)
        omega
      · simp only [if_neg hik, if_neg hjk] at he
        have := hinj (i - k) (j - k) (by omega) (by omega) he
        omega
  · exact (below_then h.below hs hb).grown hg (by have := hb.size; omega) (own_base h.own)

theorem NewMat.over {w w1 w2 : World} {v : Value} {n m : Nat} {F : Nat → Nat → Gf.E} (h : NewMat w w1 v n m F) (hb : Below w1.heap.size w1 w2) : NewMat w w2 v n m F := by
  obtain ⟨g, cap, bs, h1, h0, h2, h3, h4, h5, h6⟩ := h
  exact ⟨g, cap, bs, h1, h0, h2.below hb, h3, h4, h5, below_then h6 h6.size hb⟩
theorem NewMat.congr {w w1 : World} {v : Value} {n m : Nat} {F G : Nat → Nat → Gf.E} (h : NewMat w w1 v n m F) (e : ∀ i j, i < n → j < m → F i j = G i j) : NewMat w w1 v n m G := by
  obtain ⟨g, cap, bs, h1, h0, ⟨cs, h2, h2'⟩, h3⟩ := h
  exact ⟨g, cap, bs, h1, h0, ⟨cs, h2, fun i hi => ⟨(h2' i hi).1, (h2' i hi).2.congr (fun j hj => by rw [e i j hi hj])⟩⟩, h3⟩
def encF (k q n : Nat) (d : Nat → Gf.E) : Nat → Nat → Gf.E := fun i => if i < k then splitF q n d i else timesF (cauE k) (splitF q n d) k (i - k)

theorem run_append_none' (base c : Nat) (t ty e : TypeId) (i : TypeInfo) (size : Nat) {P : Program} {w : World} (ht : P.underlying t = some (.slice e)) (hi : P.info? e = some i)
    (v : Value) (n : Nat) (xs : List Value) (hown : w.ownsRow base e size v n xs) :
    (Builtin.append_ #[t, t] ty #[v, .slice none 0 c]).run P w = .ok v w := run_append_none base c t ty e i size ht hi v n xs hown

set_option maxRecDepth 100000 in
set_option maxHeartbeats 4000000 in
theorem encode_c (b k m : Nat) (D : Option Addr) (n dc : Nat) (d : Nat → Gf.E) (w : World) (hc : CodeR w b k m) (hk : 1 ≤ k) (hkm : k + m ≤ 255) (hd : RdB w D n d) (hn : n ≤ 65536) :
    Calls Try.prog 9 #[.pointer (some ⟨b, 0, none⟩), .slice D n dc] w fun e w' => ∃ v, e = .returned v ∧ NewMat w w' v (k + m) (wide k n) (encF k (wide k n) n d) := by
  obtain ⟨i56, hi, hz0, hz1, hz2⟩ := info_parts info56
  have hq1 := wide_pos k n
  have hq2 : wide k n ≤ 70000 := by
    have h1 := wide_le n hk
    have h2 : 1 * wide k n ≤ k * wide k n := Nat.mul_le_mul_right _ hk
    omega
  have HS := Lib.hid (split_c b k m D n dc d w hc hk hkm hd hn)
  have HC := Lib.hid hc
  obtain ⟨q, hq⟩ : ∃ q, q = wide k n := ⟨_, rfl⟩
  rw [← hq] at hq1 hq2 HS
  rw [← hq]
  clear hq hd hc
  go_enter Try.func9, Try.ntmps9
  go_wp2_with (fail)
  refine HS.out.mono ?_
  rintro e w2 ⟨v, As, cs, w1, rfl, hb1, hC⟩
  obtain ⟨A, c, rfl, hac, hR⟩ := hC.rd
  have hb2 := below_then hb1 hb1.size hC.below
  have hc2 := HC.out.below hb2
  have hN := NewMat.lower (hC.new (m := q) (by omega) (by omega) (fun _ _ => rfl)) hb1
  obtain ⟨g, cap, bs, hv, hN⟩ := hN
  injection hv with hA hkk hcc
  subst hA hcc
  by_cases hm : m = 0
  · subst hm
    have HP := Lib.hid (par_zero b k (some ⟨g, 0, none⟩) c q (splitF q n d) w2 hc2 hR hk (by omega) hq1 (by omega))
    have HCC := Lib.hid hC
    have HN := Lib.hid (show NewMat w w2 (.slice (some ⟨g, 0, none⟩) k c) k q (splitF q n d) from ⟨g, c, bs, rfl, hN⟩)
    clear hc2 hR hC hb2 hb1 HS HC hN
    go_wp2_with (fail)
    refine HP.out.mono ?_
    rintro e w3 ⟨rfl, hb3⟩
    have hap := run_append_none' (P := Try.prog) (w := w3) w1.heap.size 0 28 28 22 i56 1 Try.underlying28 hi _ k _ (HCC.out.own.kept (row := none) ⟨hb3.os, hb3.tape, hb3.output, hb3.size, fun i hi _ => hb3.block i hi⟩ (by simp [Value.ownBlock]))
    replace hb3 := Lib.hid hb3
    go_wp2_with (fail)
    go_ret
    exact ⟨_, rfl, (HN.out.over hb3.out).congr (fun i j hi _ => by unfold encF; rw [if_pos (show i < k by omega)])⟩
  · have HP := Lib.hid (par_yes b k m (some ⟨g, 0, none⟩) c q (splitF q n d) w2 hc2 hR hk (by omega) hkm hq1 (by omega))
    have HCC := Lib.hid hC
    have HB1 := Lib.hid hb1
    clear hc2 hR hC hb2 hb1 HS HC hN
    go_wp2_with (fail)
    refine HP.out.mono ?_
    rintro e w3 ⟨v3, rfl, g3, cap3, bs3, rfl, hcap3, hM⟩
    obtain ⟨⟨cs3, hM1, hM2⟩, hM3, hM4, hM5, hM6⟩ := hM
    have HMM := Lib.hid (show (∀ i, i < m → q ≤ cs3 i ∧ RowAt w3 (bs3 i) 5 q (fun j => vb (timesF (cauE k) (splitF q n d) k i j))) ∧ (∀ i, i < m → w2.heap.size ≤ bs3 i) ∧ (∀ i j, i < m → j < m → bs3 i = bs3 j → i = j) ∧ Below w2.heap.size w2 w3 from ⟨hM2, hM4, hM5, hM6⟩)
    have HO := Lib.hid (HCC.out.own.kept (row := none) (w' := w3) ⟨hM6.os, hM6.tape, hM6.output, hM6.size, fun i hi _ => hM6.block i hi⟩ (by simp [Value.ownBlock]))
    have HNW := Lib.hid (show ∀ j u, (rowVals m q bs3 cs3)[j]? = some u → w3.cell? ((⟨g3, 0, none⟩ : Addr).add j) = some u from fun j u hj => by
      have hl : j < m := by
        have := (List.getElem?_eq_some_iff.1 hj).1
        rwa [rowVals_len] at this
      rw [rowVals_at hl] at hj
      injection hj with hj
      rw [← hj, add_plain]; exact hM1.cell hl)
    have hsz : w1.heap.size ≤ w3.heap.size := by have := HCC.out.below.size; have := hM6.size; omega
    have hx1 : (rowVals m q bs3 cs3).length = m * 1 := by rw [rowVals_len, Nat.mul_one]
    have hx2 : k + m ≤ maxLen := by unfold maxLen; omega
    have hx3 : (k + m) * 24 ≤ 140737488355328 := by omega
    replace hx1 := Lib.hid hx1
    replace hx2 := Lib.hid hx2
    replace hx3 := Lib.hid hx3
    clear hM1 hM2 hM3 hM4 hM5 hM6 HP
    have MORE : Hid (∀ v4 w4, w4.ownsRow w1.heap.size 22 1 v4 (k + m) (((List.range k).map fun i => Value.slice (As i) q (cs i)) ++ rowVals m q bs3 cs3) → w3.grownBy w4 (Value.slice (some ⟨g, 0, none⟩) k c).ownBlock → NewMat w w4 v4 (k + m) q (encF k q n d)) := Lib.hid (fun v4 w4 h1 h2 => by
      have hS := HCC.out.more hk hq1 HMM.out.1 HMM.out.2.1 HMM.out.2.2.1 HMM.out.2.2.2 h1 h2
      exact NewMat.lower hS HB1.out)
    go_wp2_with (first | (at_builtin; refine wpList_append_own _ rfl (.tmp 17) (.tmp 18) 28 rfl w1.heap.size 22 i56 (.slice none 0 0) 1 24 Try.underlying28 hi hz0 hz1 hz2 rfl (by decide) (.slice (some ⟨g, 0, none⟩) k c) k ((List.range k).map fun i => Value.slice (As i) q (cs i)) ?_ ?_ ⟨g3, 0, none⟩ m cap3 (rowVals m q bs3 cs3) ?_ hx1.out ?_ (rowVals_one _ _ _ _) hx2.out hx3.out hsz ?_; rfl; exact HO.out; rfl; exact HNW.out; intro v4 w4 hown4 hgrow4 hz; clear hz; have HS := Lib.hid (MORE.out v4 w4 hown4 hgrow4); clear hown4 hgrow4))
    go_ret
    exact ⟨_, rfl, HS.out⟩
end Go.Proofs.Ytccfnhocjiehnaa
