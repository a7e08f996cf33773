/- The reference's Rows. -/
import Derived.Test.YtldndaimgfegnaaCopy
import Derived.Test.YtldndaimgfegnaaRows2
namespace Go.Proofs.Ytldndaimgfegnaa
open Go.RowKit
set_option linter.unusedVariables false
set_option linter.unusedSimpArgs false

theorem CopyR.new {w wr : World} {k m : Nat} {v : Value} {As : Nat → Option Addr} {cs : Nat → Nat} {L : Nat → Nat} {F : Nat → Nat → Gf.E} (h : CopyR w wr k v As cs L F) (hk : 0 < k) (hm : 0 < m) (hL : ∀ i, i < k → L i = m) : NewMat w wr v k m F := by
  obtain ⟨g, cap, rfl, hc, hr, hg⟩ := RowAt.of_own (f := fun i => .slice (As i) (L i) (cs i)) hk h.own (fun i hi => by rw [List.getElem?_map, List.getElem?_range hi]; rfl)
  have hb : ∀ i, ∃ b, i < k → As i = some ⟨b, 0, none⟩ ∧ w.heap.size ≤ b ∧ RowAt wr b 5 (L i) (fun j => vb (F i j)) := fun i => by
    by_cases hi : i < k
    · obtain ⟨b, hb⟩ := (h.rows i hi).2 (by rw [hL i hi]; exact hm)
      exact ⟨b, fun _ => hb⟩
    · exact ⟨0, fun x => absurd x hi⟩
  obtain ⟨bs, hbs⟩ := Classical.axiomOfChoice hb
  refine ⟨g, cap, bs, rfl, hc, ⟨cs, hr.congr (fun i hi => by rw [(hbs i hi).1, hL i hi]), fun i hi => ⟨by rw [← hL i hi]; exact (h.rows i hi).1, by rw [← hL i hi]; exact (hbs i hi).2.2⟩⟩, hg, fun i hi => (hbs i hi).2.1, fun i j hi hj he => ?_, h.below⟩
  refine Decidable.byContradiction fun hne => h.inj i j hi hj hne (by rw [hL i hi]; exact hm) (by rw [hL j hj]; exact hm) ?_
  rw [(hbs i hi).1, (hbs j hj).1, he]

set_option maxRecDepth 100000 in
set_option maxHeartbeats 8000000 in
theorem rrows_no (A N : Option Addr) (n c kn kc : Nat) (L : Nat → Nat) (F : Nat → Nat → Gf.E) (f : Nat → Int) (w : World) (ha : RdM w A n L F) (hn : n ≤ 4611686018427387904) (hkn : kn ≤ 4611686018427387904) (hl : ∀ i, i < n → L i ≤ 4611686018427387904)
    (hf : rightB n L = false ∨ (rightB n L = true ∧ (kn < 1 ∨ (1 ≤ kn ∧ 255 < kn)))) :
    Calls Try.prog 33 #[.slice A n c, .slice N kn kc] w fun e w' => e = .returned (.tuple #[.slice none 0 0, .int .i64 1]) ∧ Below w.heap.size w w' := by
  have HR := Lib.hid (rright_c A n c L F w ha hn hl)
  rcases hf with hf | ⟨hf, hk | ⟨hk1, hk2⟩⟩
  · rw [hf] at HR
    clear ha hl hf
    go_enter Try.func33, Try.ntmps33
    go_wp2_with (first | (go_at_call 28; refine HR.out.mono ?_; rintro e w' ⟨rfl, hd⟩; obtain ⟨q, rfl⟩ := hd))
    go_ret2
    exact ⟨rfl, below_drewN (Below.refl _ _) _⟩
  · rw [hf] at HR
    have k1 : (kn : Int) < 1 := by omega
    clear ha hl hf hk
    go_enter Try.func33, Try.ntmps33
    go_wp2_with (first | (go_at_call 28; refine HR.out.mono ?_; rintro e w' ⟨rfl, hd⟩; obtain ⟨q, rfl⟩ := hd))
    go_ret2
    exact ⟨rfl, below_drewN (Below.refl _ _) _⟩
  · rw [hf] at HR
    have k1 : (1 : Int) ≤ (kn : Int) := by omega
    have k2 : (255 : Int) < (kn : Int) := by omega
    clear ha hl hf hk1 hk2
    go_enter Try.func33, Try.ntmps33
    go_wp2_with (first | (go_at_call 28; refine HR.out.mono ?_; rintro e w' ⟨rfl, hd⟩; obtain ⟨q, rfl⟩ := hd))
    go_ret2
    exact ⟨rfl, below_drewN (Below.refl _ _) _⟩

/-- After k rows of Rows. -/
def RowsR (w wr : World) (n k : Nat) (v : Value) (L : Nat → Nat) (F : Nat → Nat → Gf.E) (f : Nat → Int) : Prop := (∃ As cs, CopyR w wr k v As cs (fun i => L (f i).toNat) (rowsF F f)) ∧ ∀ i, i < k → rowBad n (f i) = false

theorem rows_step {w wr w1 w2 : World} {n k q : Nat} {v v2 : Value} {As : Nat → Option Addr} {cs : Nat → Nat} {L : Nat → Nat} {F : Nat → Nat → Gf.E} {f : Nat → Int} {A1 : Option Addr} {c1 : Nat} {o : Obj}
    (hC : CopyR w wr k v As cs (fun i => L (f i).toNat) (rowsF F f)) (hB : ∀ i, i < k → rowBad n (f i) = false) (hg : rowBad n (f k) = false) (hq : f k = (q : Int)) (hb : Below wr.heap.size wr w1) (hr : w1.ownsRow wr.heap.size 5 1 (.slice A1 (L q) c1) (L q) (newsB (L q) (F q)))
    (hown : w2.ownsRow w.heap.size 56 1 v2 (k + 1) ((List.range k).map (fun i => Value.slice (As i) (L (f i).toNat) (cs i)) ++ [.slice A1 (L q) c1])) (hgr : (w1.alloc o).grownBy w2 v.ownBlock) : RowsR w w2 n (k + 1) v2 L F f := by
  have e : (f k).toNat = q := by omega
  refine ⟨hC.step hb ?_ hown hgr, fun i hi => ?_⟩
  · show w1.ownsRow _ _ 1 _ (L (f k).toNat) (newsB (L (f k).toNat) (fun j => F (f k).toNat j))
    rw [e]; exact hr
  · by_cases h : i = k
    · rw [h]; exact hg
    · exact hB i (by omega)

set_option maxRecDepth 100000 in
set_option maxHeartbeats 8000000 in
theorem rrows_yes (A N : Option Addr) (n c kn kc : Nat) (L : Nat → Nat) (F : Nat → Nat → Gf.E) (f : Nat → Int) (w : World) (ha : RdM w A n L F) (hb0 : RdF w N kn (fun j => .int .i64 (f j))) (hn : n ≤ 4611686018427387904) (hl : ∀ i, i < n → L i ≤ 4611686018427387904)
    (hf : rightB n L = true) (h2 : 1 ≤ kn) (h3 : kn ≤ 255) :
    Calls Try.prog 33 #[.slice A n c, .slice N kn kc] w fun e w' => (anyB (fun i => rowBad n (f i)) kn = true ∧ e = .returned (.tuple #[.slice none 0 0, .int .i64 1]) ∧ Below w.heap.size w w') ∨
      (anyB (fun i => rowBad n (f i)) kn = false ∧ ∃ v, e = .returned (.tuple #[v, .int .i64 0]) ∧ NewMat w w' v kn (L 0) (rowsF F f)) := by
  have HR := Lib.hid (rright_c A n c L F w ha hn hl)
  rw [hf] at HR
  obtain ⟨p1, p2, p3, p4, p5⟩ := rightB_pos hf
  have P5 := Lib.hid p5
  have HA := Lib.hid ha
  have HN := Lib.hid hb0
  obtain ⟨i56, hi, hz0, hz1, hz2⟩ := info_parts info56
  have k1 : (1 : Int) ≤ (kn : Int) := by omega
  have k2 : (kn : Int) ≤ 255 := by omega
  have HST := Lib.hid (fun q => (show RowsR w (w.drewN q) n 0 (.slice none 0 0) L F f from ⟨⟨_, _, CopyR.start w _ _ _ (below_drewN (Below.refl _ _) q)⟩, fun i hi => absurd hi (Nat.not_lt_zero _)⟩))
  clear ha hb0 hf hl p5
  go_enter Try.func33, Try.ntmps33
  go_wp2_with (first | (go_at_call 28; refine HR.out.mono ?_; rintro e w' ⟨rfl, hd⟩; obtain ⟨q, rfl⟩ := hd))
  have HI := Lib.hid (HST.out q)
  clear HST HR
  go_loopg [6, 7] kn (fun kq v6 v7 wr => ∃ k : Nat, k + kq = kn ∧ v7 = .int .i64 (k : Int) ∧ Hid (RowsR w wr n k v6 L F f))
  case atStart => exact ⟨0, by omega, rfl, HI⟩
  case round =>
    clear HI
    obtain ⟨k, hk, rfl, HI⟩ := hrel
    obtain ⟨⟨As, cs, hC⟩, hB⟩ := HI.out
    have HC := Lib.hid hC
    have HB := Lib.hid hB
    clear hC hB HI
    by_cases hlt : k < kn
    · have r0 : (k : Int) < (kn : Int) := by omega
      have r00 : (0 : Int) ≤ (k : Int) := by omega
      obtain ⟨bd, rfl, hcN⟩ := (HN.out.below HC.out.below).at_ hlt
      by_cases hbad : rowBad n (f k) = true
      · have hor : f k < 0 ∨ (0 ≤ f k ∧ (n : Int) ≤ f k) := by have := of_decide_eq_true hbad; omega
        have HBAD := Lib.hid hbad
        clear hbad
        rcases hor with h | ⟨h, h'⟩
        · go_wp2_with (fail)
          go_ret2
          exact .inl ⟨anyB_true hlt HBAD.out, rfl, HC.out.below⟩
        · go_wp2_with (fail)
          go_ret2
          exact .inl ⟨anyB_true hlt HBAD.out, rfl, HC.out.below⟩
      · have hgood : rowBad n (f k) = false := by simpa using hbad
        have hnb := of_decide_eq_false hgood
        obtain ⟨q, hq⟩ := Int.eq_ofNat_of_zero_le (show 0 ≤ f k by omega)
        have hqn : q < n := by omega
        rw [hq] at hcN
        obtain ⟨Ar, Cr, hr, hrow⟩ := HA.out.below HC.out.below
        obtain ⟨ad, rfl, hcq⟩ := hr.at_ hqn
        have HROW := Lib.hid (hrow q hqn).2
        have q1 : (q : Int) < (n : Int) := by omega
        have q0 : (0 : Int) ≤ (q : Int) := by omega
        have HG := Lib.hid hgood
        have HQ := Lib.hid hq
        have HLQ : Hid (L q ≤ 255) := Lib.hid (by rw [P5.out q hqn]; exact p4)
        have hcN' := cell_below (box_below wr (.cells #[] 5)) hcN
        have hcq' := cell_below (box_below wr (.cells #[] 5)) hcq
        clear hr hrow hbad hgood hnb hq hcq
        go_wp2_with (first | (at_builtin; refine wpList_append_row rfl (.tmp 42) (.tmp 49) rfl wr.heap.size _ 0 [] rfl (own_empty wr _) (Ar q) (L q) (Cr q) (F q) rfl (by exact RdF.below HROW.out (box_below wr _)) (by have := HLQ.out; omega) (by have := HLQ.out; omega) (by simp) ?_; intro v1 w1 hown1 hgrow1; obtain ⟨A1, c1, hv1, hrow1, hbel1⟩ := row_copied hown1 hgrow1; subst hv1; replace hrow1 := Lib.hid hrow1; replace hbel1 := Lib.hid hbel1; clear hown1 hgrow1) | (at_builtin; refine wpList_append_own _ rfl (.tmp 41) (.tmp 51) 38 rfl w.heap.size 56 i56 (.slice none 0 0) 1 24 Try.underlying38 hi hz0 hz1 hz2 rfl (by decide) _ k _ rfl (HC.out.ownUp hbel1.out _) _ 1 1 [.slice A1 (L q) c1] rfl rfl (one_news _ _ _ rfl) (one_one _ rfl) (by unfold maxLen; omega) (by omega) (by have := HC.out.below.size; have := hbel1.out.size; simp; omega) ?_; intro v2 w2 hown2 hgrow2 hz; clear hz; have HS := Lib.hid (show RowsR w w2 n (k + 1) v2 L F f from rows_step HC.out HB.out HG.out HQ.out hbel1.out hrow1.out hown2 hgrow2); clear hown2 hgrow2))
        go_roundg (kn - (k + 1))
        case measure => omega
        case rel => exact ⟨k + 1, by omega, by go_num, HS⟩
    · obtain rfl : k = kn := by omega
      have HN2 := Lib.hid (HC.out.new (m := L 0) (by omega) (by omega) (fun i hi => by have := of_decide_eq_false (HB.out i hi); exact P5.out _ (by omega)))
      go_wp2_with (fail)
      go_ret2
      exact .inr ⟨anyB_false HB.out, _, rfl, HN2.out⟩

theorem rrows_c (A N : Option Addr) (n c kn kc : Nat) (L : Nat → Nat) (F : Nat → Nat → Gf.E) (f : Nat → Int) (w : World) (ha : RdM w A n L F) (hb : RdF w N kn (fun j => .int .i64 (f j))) (hn : n ≤ 4611686018427387904) (hl : ∀ i, i < n → L i ≤ 4611686018427387904) (hkn : kn ≤ 4611686018427387904) :
    Calls Try.prog 33 #[.slice A n c, .slice N kn kc] w fun e w' => ∃ v, e = .returned (.tuple #[v, .int .i64 (errOf (rowsOk n kn L f))]) ∧ MatOr (rowsOk n kn L f) w w' v kn (L 0) (rowsF F f) := by
  unfold rowsOk
  by_cases h1 : rightB n L = true
  · by_cases h2 : 1 ≤ kn ∧ kn ≤ 255
    · refine (rrows_yes A N n c kn kc L F f w ha hb hn hl h1 h2.1 h2.2).mono ?_
      rintro e w' (⟨h3, rfl, hb⟩ | ⟨h3, v, rfl, hv⟩)
      · rw [h1, decide_eq_true h2, h3]
        exact ⟨_, rfl, rfl, hb⟩
      · rw [h1, decide_eq_true h2, h3]
        exact ⟨v, rfl, hv⟩
    · rw [h1, decide_eq_false h2]
      refine (rrows_no A N n c kn kc L F f w ha hn hkn hl (.inr ⟨h1, by omega⟩)).mono ?_
      rintro e w' ⟨rfl, hb⟩
      exact ⟨_, rfl, rfl, hb⟩
  · have h1 : rightB n L = false := by simpa using h1
    rw [h1]
    refine (rrows_no A N n c kn kc L F f w ha hn hkn hl (.inl h1)).mono ?_
    rintro e w' ⟨rfl, hb⟩
    exact ⟨_, rfl, rfl, hb⟩
end Go.Proofs.Ytldndaimgfegnaa
