/- GfOwn holds where what it reads is of bulk at most 1048576: what gf makes of a matrix shares nothing with it. -/
import Derived.Test.YtldndaimgfegnaaLawMakes
import Derived.Test.YtldndaimgfegnaaRefRows
import Derived.Test.YtldndaimgfegnaaInvC
import Derived.Test.YtldndaimgfegnaaSpoil
namespace Go.Proofs.Ytldndaimgfegnaa.gfOwn
open Go.ChangeShapes Go.WideShapes Go.ChangeAt Go.RowKit
open Go.ChangeMaps (open_string shut_string)
open Go.Proofs.Ytldndaimgfegnaa.gfMakes (szOf szOf_le matOr_rd same_true)
set_option linter.unusedVariables false
set_option linter.unusedSimpArgs false

/-! ### What gf makes of the copy: it lies above what there was -/
theorem matOr_may {ok : Bool} {w w' : World} {v : Value} {n m : Nat} {F : Mt} (h : MatOr ok w w' v n m F) (hn : ok = true → n ≤ 300) (hm : ok = true → m ≤ 300) : MayIn w.heap.size w'.heap.size w' v ∧ Below w.heap.size w w' := by
  unfold MatOr at h
  split at h
  · rename_i e
    exact NewMat.mayIn h (hn e) (hm e)
  · obtain ⟨rfl, hb⟩ := h
    exact ⟨.inl rfl, hb⟩
theorem inverse_may (A : Option Addr) (n c : Nat) (L : Nat → Nat) (F : Mt) (w : World) (ha : RdM w A n L F) (hn : n ≤ 2000) (hl : ∀ i, i < n → L i ≤ 2000) :
    Calls Try.prog 30 #[.slice A n c] w fun e w' => ∃ v x, e = .returned (.tuple #[v, .int .i64 x]) ∧ MayIn w.heap.size w'.heap.size w' v ∧ Below w.heap.size w w' := by
  refine (inverse_c A n c L F w ha (by omega) (fun i hi => by have := hl i hi; omega)).mono ?_
  rintro e w' ⟨v, ⟨h, A', O', _, rfl, hN⟩ | ⟨h, _, rfl, hb⟩ | ⟨h, rfl, hb⟩⟩
  · unfold invOk at h
    rw [Bool.and_eq_true] at h
    have := rightB_pos h.1
    obtain ⟨a, b⟩ := NewMat.mayIn hN (by omega) (by omega)
    exact ⟨v, 0, rfl, a, b⟩
  · exact ⟨_, _, rfl, .inl rfl, hb⟩
  · exact ⟨_, _, rfl, .inl rfl, hb⟩
theorem rows_may (A N : Option Addr) (n c kn kc : Nat) (L : Nat → Nat) (F : Mt) (f : Nat → Int) (w : World) (ha : RdM w A n L F) (hb : RdF w N kn (fun j => .int .i64 (f j))) (hn : n ≤ 2000) (hl : ∀ i, i < n → L i ≤ 2000) (hkn : kn ≤ 300) :
    Calls Try.prog 29 #[.slice A n c, .slice N kn kc] w fun e w' => ∃ v, e = .returned (.tuple #[v, .int .i64 (errOf (rowsOk n kn L f))]) ∧ MayIn w.heap.size w'.heap.size w' v ∧ Below w.heap.size w w' := by
  refine (rows_c A N n c kn kc L F f w ha hb (by omega) (fun i hi => by have := hl i hi; omega) (by omega)).mono ?_
  rintro e w' ⟨v, rfl, hv⟩
  obtain ⟨a, b⟩ := matOr_may hv (fun _ => hkn) (fun h => by unfold rowsOk at h; rw [Bool.and_eq_true] at h; have := rightB_pos h.1; omega)
  exact ⟨v, rfl, a, b⟩
theorem times_may (A : Option Addr) (n c : Nat) (L : Nat → Nat) (F : Mt) (w : World) (ha : RdM w A n L F) (hn : n ≤ 2000) (hl : ∀ i, i < n → L i ≤ 2000) :
    Calls Try.prog 31 #[.slice A n c, .slice A n c] w fun e w' => ∃ v x, e = .returned (.tuple #[v, .int .i64 x]) ∧ MayIn w.heap.size w'.heap.size w' v ∧ Below w.heap.size w w' := by
  refine (times_c A A n c n c L L F F w ha ha (by omega) (fun i hi => by have := hl i hi; omega) (by omega) (fun i hi => by have := hl i hi; omega)).mono ?_
  rintro e w' ⟨v, rfl, hv⟩
  have hr : timesOk n n L L = true → n ≤ 300 ∧ L 0 ≤ 300 := fun h => by
    unfold timesOk at h
    rw [Bool.and_eq_true] at h
    have := rightB_pos h.1
    omega
  obtain ⟨a, b⟩ := matOr_may hv (fun h => (hr h).1) (fun h => (hr h).2)
  exact ⟨v, _, rfl, a, b⟩
theorem rows2 (A N : Option Addr) (n c kn kc : Nat) (L : Nat → Nat) (F : Mt) (f : Nat → Int) (w : World) (ha : RdM w A n L F) (hb : RdF w N kn (fun j => .int .i64 (f j))) (hn : n ≤ 2000) (hl : ∀ i, i < n → L i ≤ 2000) (hkn : kn ≤ 300) :
    Calls Try.prog 29 #[.slice A n c, .slice N kn kc] w fun e w' => ∃ (A' : Option Addr) (c' : Nat), e = .returned (.tuple #[.slice A' (szOf (rowsOk n kn L f) kn) c', .int .i64 (errOf (rowsOk n kn L f))]) ∧ Hid (RdM w' A' (szOf (rowsOk n kn L f) kn) (fun _ => L 0) (rowsF F f)) ∧ Hid (Below w.heap.size w w') := by
  refine (rows_c A N n c kn kc L F f w ha hb (by omega) (fun i hi => by have := hl i hi; omega) (by omega)).mono ?_
  rintro e w' ⟨v, rfl, hv⟩
  obtain ⟨A', c', rfl, h1, h2⟩ := matOr_rd hv
  exact ⟨A', c', rfl, Lib.hid h1, Lib.hid h2⟩
theorem rrows2 (A N : Option Addr) (n c kn kc : Nat) (L : Nat → Nat) (F : Mt) (f : Nat → Int) (w : World) (ha : RdM w A n L F) (hb : RdF w N kn (fun j => .int .i64 (f j))) (hn : n ≤ 2000) (hl : ∀ i, i < n → L i ≤ 2000) (hkn : kn ≤ 300) :
    Calls Try.prog 33 #[.slice A n c, .slice N kn kc] w fun e w' => ∃ (A' : Option Addr) (c' : Nat), e = .returned (.tuple #[.slice A' (szOf (rowsOk n kn L f) kn) c', .int .i64 (errOf (rowsOk n kn L f))]) ∧ Hid (RdM w' A' (szOf (rowsOk n kn L f) kn) (fun _ => L 0) (rowsF F f)) ∧ Hid (Below w.heap.size w w') := by
  refine (rrows_c A N n c kn kc L F f w ha hb (by omega) (fun i hi => by have := hl i hi; omega) (by omega)).mono ?_
  rintro e w' ⟨v, rfl, hv⟩
  obtain ⟨A', c', rfl, h1, h2⟩ := matOr_rd hv
  exact ⟨A', c', rfl, Lib.hid h1, Lib.hid h2⟩
theorem same_all (A B : Option Addr) (n c d : Nat) (L : Nat → Nat) (F : Mt) (w : World) (ha : RdM w A n L F) (hb : RdM w B n L F) (hn : n ≤ 2000) : Calls Try.prog 24 #[.slice A n c, .slice B n d] w fun e w' => e = .returned (.bool true) ∧ Drew w w' := by
  have h := same_c A B n n c d L L F F w ha hb (by omega) (by omega)
  rw [sameB_true ⟨rfl, fun i _ => ⟨rfl, fun j _ => rfl⟩⟩] at h
  exact h

set_option maxRecDepth 100000 in
set_option maxHeartbeats 4000000 in
theorem walk_few (A N : Option Addr) (len cap kn kc : Nat) (L : Nat → Nat) (F : Mt) (w : World) (hm : RdM w A len L F) (hs : len + sumL L len ≤ 1048576) (hf : fewB len L = false ∨ (fewB len L = true ∧ 300 < kn)) :
    Calls Try.prog 8 #[.slice A len cap, .slice N kn kc] w fun e w' => e = .returned (.bool true) ∧ Below w.heap.size w w' := by
  have HM := Lib.hid hm
  rcases hf with hf | ⟨hf, h3⟩
  · have HF := Lib.hid hf
    clear hm hf
    go_enter Try.func8, Try.ntmps8
    go_wp2_with (first | (go_at_call 11; refine (known_c _).mono ?_; rintro e w1 ⟨rfl, hb⟩; replace hb := Lib.hid hb) | (go_at_call 21; refine (few_c A len cap L F _ (HM.out.below hb.out) hs).mono ?_; rintro e w2 ⟨rfl, rfl⟩; rw [HF.out]))
    go_ret
    exact ⟨rfl, hb.out⟩
  · have HF := Lib.hid hf
    have h3' : (300 : Int) < (kn : Int) := by omega
    clear hm hf
    go_enter Try.func8, Try.ntmps8
    go_wp2_with (first | (go_at_call 11; refine (known_c _).mono ?_; rintro e w1 ⟨rfl, hb⟩; replace hb := Lib.hid hb) | (go_at_call 21; refine (few_c A len cap L F _ (HM.out.below hb.out) hs).mono ?_; rintro e w2 ⟨rfl, rfl⟩; rw [HF.out]))
    go_ret
    exact ⟨rfl, hb.out⟩

set_option maxRecDepth 100000 in
set_option maxHeartbeats 8000000 in
theorem walk_in (A N : Option Addr) (len cap kn kc : Nat) (L : Nat → Nat) (F : Mt) (f : Nat → Int) (w : World) (hm : RdM w A len L F) (hN : RdF w N kn (fun j => .int .i64 (f j))) (hf : fewB len L = true) (h3 : kn ≤ 300) :
    Calls Try.prog 8 #[.slice A len cap, .slice N kn kc] w fun e w' => e = .returned (.bool true) ∧ Below w.heap.size w w' := by
  have hfew := of_decide_eq_true hf
  have hs : len + sumL L len ≤ 1048576 := by omega
  have hlen : len ≤ 2000 := by omega
  have HL : Hid (∀ i, i < len → L i ≤ 2000) := Lib.hid (fun i hi => by have := sumL_le L hi; omega)
  have HM := Lib.hid hm
  have HN := Lib.hid hN
  have HF := Lib.hid hf
  have h3' : (kn : Int) ≤ 300 := by omega
  obtain ⟨i56, hi, hz0, hz1, hz2⟩ := info_parts info56
  clear hm hN hf hfew
  go_enter Try.func8, Try.ntmps8
  go_wp2_with (first | (go_at_call 11; refine (known_c _).mono ?_; rintro e w1 ⟨rfl, hb⟩; replace hb := Lib.hid hb) | (go_at_call 21; refine (few_c A len cap L F _ (HM.out.below hb.out) hs).mono ?_; rintro e w2 ⟨rfl, rfl⟩; rw [HF.out]))
  have HI := Lib.hid (show ∃ As cs, CopyR w1 w1 0 (.slice none 0 0) As cs L F from ⟨_, _, CopyR.start w1 w1 L F (Below.refl _ _)⟩)
  go_loopg [5, 6] len (fun kq v5 v6 wr => ∃ k : Nat, k + kq = len ∧ v6 = .int .i64 (k : Int) ∧ Hid (∃ As cs, CopyR w1 wr k v5 As cs L F))
  case atStart => exact ⟨0, by omega, rfl, HI⟩
  case round =>
    clear HI
    obtain ⟨k, hk, rfl, HI⟩ := hrel
    obtain ⟨As, cs, hC⟩ := HI.out
    have HC := Lib.hid hC
    clear hC HI
    by_cases hlt : k < len
    · have r0 : (k : Int) < (len : Int) := by omega
      have r00 : (0 : Int) ≤ (k : Int) := by omega
      obtain ⟨Ar, Cr, hr, hrow⟩ := (HM.out.below hb.out).below HC.out.below
      obtain ⟨ad, rfl, hcq⟩ := hr.at_ hlt
      have HROW := Lib.hid (hrow k hlt).2
      have HLQ := Lib.hid (HL.out k hlt)
      have hcq' := cell_below (box_below wr (.cells #[] 5)) hcq
      clear hr hrow hcq
      go_wp2_with (first | (at_builtin; refine wpList_append_row rfl (.tmp 34) (.tmp 38) rfl wr.heap.size _ 0 [] rfl (own_empty wr _) (Ar k) (L k) (Cr k) (F k) rfl (by exact RdF.below HROW.out (box_below wr _)) (by have := HLQ.out; omega) (by have := HLQ.out; omega) (by simp) ?_; intro v1 w4 hown1 hgrow1; obtain ⟨A1, c1, hv1, hrow1, hbel1⟩ := row_copied hown1 hgrow1; subst hv1; replace hrow1 := Lib.hid hrow1; replace hbel1 := Lib.hid hbel1; clear hown1 hgrow1) | (at_builtin; refine wpList_append_own _ rfl (.tmp 33) (.tmp 40) 38 rfl w1.heap.size 56 i56 (.slice none 0 0) 1 24 Try.underlying38 hi hz0 hz1 hz2 rfl (by decide) _ k _ rfl (HC.out.ownUp hbel1.out _) _ 1 1 [.slice A1 (L k) c1] rfl rfl (one_news _ _ _ rfl) (one_one _ rfl) (by unfold maxLen; omega) (by omega) (by have := HC.out.below.size; have := hbel1.out.size; simp; omega) ?_; intro v2 w5 hown2 hgrow2 hz; clear hz; have HS := Lib.hid (HC.out.step hbel1.out hrow1.out hown2 hgrow2); clear hown2 hgrow2))
      go_roundg (len - (k + 1))
      case measure => omega
      case rel => exact ⟨k + 1, by omega, by go_num, HS⟩
    · obtain rfl : k = len := by omega
      obtain ⟨A5, c5, rfl, _, hmine⟩ := HC.out.rd
      have HMI := Lib.hid hmine
      have HBW := Lib.hid (below_then hb.out hb.out.size HC.out.below)
      clear hmine HC hb
      go_wp2_with (fail)
      refine (inverse_may A5 k c5 L F wr HMI.out (by omega) HL.out).mono ?_
      rintro e wa ⟨va, xa, rfl, hma, hba⟩
      replace hma := Lib.hid hma
      replace hba := Lib.hid hba
      go_wp2_with (fail)
      refine (rows_may A5 N k c5 kn kc L F f wa (HMI.out.below hba.out) ((HN.out.below HBW.out).below hba.out) (by omega) HL.out h3).mono ?_
      rintro e wb ⟨vb', rfl, hmb, hbb⟩
      replace hmb := Lib.hid hmb
      replace hbb := Lib.hid hbb
      go_wp2_with (fail)
      refine (times_may A5 k c5 L F wb ((HMI.out.below hba.out).below hbb.out) (by omega) HL.out).mono ?_
      rintro e wc ⟨vc, xc, rfl, hmc, hbc⟩
      replace hmc := Lib.hid hmc
      replace hbc := Lib.hid hbc
      go_wp2_with (fail)
      refine (spoil_may ((hma.out.chg (Chg.of_below (S := fun _ => False) hbb.out) (fun _ h => h.elim)).chg (Chg.of_below (S := fun _ => False) hbc.out) (fun _ h => h.elim))).mono ?_
      rintro e wd ⟨rfl, hcd⟩
      replace hcd := Lib.hid hcd
      go_wp2_with (fail)
      refine (spoil_may ((hmb.out.chg (Chg.of_below (S := fun _ => False) hbc.out) (fun _ h => h.elim)).chg hcd.out (fun _ h => .inl h.2))).mono ?_
      rintro e we ⟨rfl, hce⟩
      replace hce := Lib.hid hce
      go_wp2_with (fail)
      refine (spoil_may ((hmc.out.chg hcd.out (fun i h => .inl (by have := hbb.out.size; omega))).chg hce.out (fun _ h => .inl h.2))).mono ?_
      rintro e wf ⟨rfl, hcf⟩
      have HF2 : Hid (Below wr.heap.size wr wf) := by
        have g1 := hba.out.size
        have g2 := hbb.out.size
        have g3 := hbc.out.size
        have g4 := hcd.out.size
        have g5 := hce.out.size
        have b1 := below_then (below_then hba.out g1 hbb.out) (by omega) hbc.out
        have b2 := hcd.out.below b1 (by omega) (fun i h => h.1)
        have b3 := hce.out.below b2 (by omega) (fun i h => by omega)
        exact Lib.hid (hcf.below b3 (by omega) (fun i h => by omega))
      clear hcf hcd hce hma hmb hmc hba hbb hbc
      have HM6 := Lib.hid ((HM.out.below HBW.out).below HF2.out)
      have HI6 := Lib.hid (HMI.out.below HF2.out)
      have HN6 := Lib.hid ((HN.out.below HBW.out).below HF2.out)
      go_wp2_with (fail)
      refine (same_all A5 A k c5 cap L F wf HI6.out HM6.out (by omega)).mono ?_
      rintro e wg ⟨rfl, hdg⟩
      obtain ⟨q, rfl⟩ := hdg
      go_wp2_with (fail)
      refine (rows2 A5 N k c5 kn kc L F f _ (HI6.out.below (below_drewN (Below.refl _ _) q)) (HN6.out.below (below_drewN (Below.refl _ _) q)) (by omega) HL.out h3).mono ?_
      rintro e wh ⟨A8, c8, rfl, h8, b8⟩
      go_wp2_with (fail)
      refine (rrows2 A N k cap kn kc L F f _ ((HM6.out.below (below_drewN (Below.refl _ _) q)).below b8.out) ((HN6.out.below (below_drewN (Below.refl _ _) q)).below b8.out) (by omega) HL.out h3).mono ?_
      rintro e wi ⟨A9, c9, rfl, h9, b9⟩
      have H89 := Lib.hid (h8.out.below b9.out)
      have HB9 := Lib.hid (below_then (below_drewN (below_then HBW.out HBW.out.size HF2.out) q) (by have := HF2.out.size; have := HBW.out.size; simpa using (by omega : w.heap.size ≤ wf.heap.size)) b8.out)
      have HB10 := Lib.hid (below_then HB9.out HB9.out.size b9.out)
      have hszb : szOf (rowsOk k kn L f) kn ≤ 256 := szOf_le (fun h => by unfold rowsOk at h; rw [Bool.and_eq_true, Bool.and_eq_true] at h; have := of_decide_eq_true h.2.1; omega)
      have HSZ := Lib.hid hszb
      clear hszb
      go_wp2_with (first | (go_at_call 24; with_reducible refine (same_true H89.out h9.out HSZ.out).mono ?_; rintro e w7 ⟨rfl, hd⟩; obtain ⟨q2, rfl⟩ := hd))
      go_ret
      exact ⟨rfl, below_drewN HB10.out _⟩

theorem walk (a0 : Option Addr) (len0 cap0 : Nat) (a1 : Option Addr) (len1 cap1 : Nat) (w : World) (y0 : len0 ≤ 1048576) (w0 : IsMat w a0 len0 cap0) (y1 : len1 ≤ 1048576) (w1 : IsInts w a1 len1 cap1) :
    Calls Try.prog 8 #[.slice a0 len0 cap0, .slice a1 len1 cap1] w fun e w' => e = .returned (.bool true) ∧ Below w.heap.size w w' := by
  obtain ⟨L, F, h1, h2, h3⟩ := w0
  obtain ⟨f, h4, h5, h6⟩ := w1
  by_cases hf : fewB len0 L = true
  · by_cases h7 : len1 ≤ 300
    · exact walk_in a0 a1 len0 cap0 len1 cap1 L F f w h1 h4 hf h7
    · exact walk_few a0 a1 len0 cap0 len1 cap1 L F w h1 h2 (.inr ⟨hf, by omega⟩)
  · exact walk_few a0 a1 len0 cap0 len1 cap1 L F w h1 h2 (.inl (by simpa using hf))

theorem contract (H : Type) (enc : TypeId × Value → H) (W : World) (base : Nat) (args : Array Value) (ds gs : List (DataW H)) (before : List MemPlace)
    (hval : ∀ (j : Nat) t v, Try.f8.params[j]? = some t → args[j]? = some v → Value.okWide Try.prog W .any base t v)
    (hW : DataW.Whole enc Try.prog Try.f8.params.toList Rows.gfOwnSpec.vars false W args.toList ds gs before) (hk : Rows.uptoSmall H (ds ++ gs) = true) :
    Calls Try.prog 8 args W fun e W' => ∃ v, e = .returned v ∧ Rows.gfOwnSpec.post enc Try.prog Try.f8 false true false false W args v W' := by
  have hW' := hW
  obtain ⟨p, q, hA0, hV, rfl, hfz, hnd⟩ := hW
  have hA : DataW.TrodAll enc Try.prog W 0 (fun _ => true) true Try.f8.params.toList args.toList ds p := hA0
  rw [Try.params8] at hA hval
  obtain ⟨v0, vs0, d0, ds0, p0, q0, hargs, rfl, rfl, h0, r0⟩ := trodAll_cons hA
  obtain ⟨v1, vs1, d1, ds1, p1, q1, rfl, rfl, rfl, h1, r1⟩ := trodAll_cons r0
  obtain ⟨rfl, rfl, rfl⟩ := trodAll_nil r1
  obtain rfl : args = #[v0, v1] := by cases args; simp_all
  obtain ⟨rfl, rfl⟩ := trodVars_none hV
  obtain ⟨a0, len0, cap0, rfl⟩ := okWide_slice Try.underlying38 (hval 0 38 v0 rfl rfl)
  have k0 := h0
  have lt0 : ∀ x ∈ p0, x.block < W.heap.size := by obtain ⟨m, hm⟩ := k0; exact DataW.trod_lt m _ _ _ hm
  obtain ⟨y0, w0⟩ := mat_up hk (by simp) h0
  obtain ⟨a1, len1, cap1, rfl⟩ := okWide_slice Try.underlying50 (hval 1 50 v1 rfl rfl)
  have k1 := h1
  have lt1 : ∀ x ∈ p1, x.block < W.heap.size := by obtain ⟨m, hm⟩ := k1; exact DataW.trod_lt m _ _ _ hm
  obtain ⟨y1, w1⟩ := ints_up hk (by simp) h1
  clear hA0 hk
  refine (walk a0 len0 cap0 a1 len1 cap1 W y0 w0 y1 w1).mono fun e W' ⟨he, bel⟩ => ?_
  subst he
  exact ⟨_, rfl, _, _, _, [], _, [], hW', trodAll_mk1 (shut_bool Try.underlying4 _), (trodAll_cons_mk (Below.trod laidOut (by kernel_rfl) (of_decide_eq_true (by kernel_rfl)) k0 bel lt0) (trodAll_cons_mk (Below.trod laidOut (by kernel_rfl) (of_decide_eq_true (by kernel_rfl)) k1 bel lt1) trodAll_mk0)), rfl, bel.frame _, fun h => by cases h⟩
set_option maxRecDepth 100000 in
theorem lifted (os : Os) (started : os.Started) (H : Type) (enc : TypeId × Value → H) (F : Stop.Interp) :
    ReturnsInHanded {} Try.checked os 8 .any ((Rows.OpenSpec.upto Rows.gfOwnSpec).pre6 enc Try.prog Try.f8 Rows.gfOwnUptoRow.domain false) (((Rows.OpenSpec.upto Rows.gfOwnSpec).at F).post enc Try.prog Try.f8 false true false false) := by
  refine returnsInHanded_of_cond (C := Try.checked) (s := Rows.OpenSpec.upto Rows.gfOwnSpec) (k := Rows.uptoSmall) rfl own started (by kernel_rfl) Try.func8
    (OpenSpec.witness (enc := enc) (C := Try.checked) (s := Rows.OpenSpec.upto Rows.gfOwnSpec) (k := Rows.uptoSmall) rfl false ⟨#[], #[.slice none 0 0, .slice none 0 0], []⟩ 8 (by kernel_rfl) (by kernel_rfl) (by kernel_rfl)
      (x := ([.nil, .nil], [], [])) (by kernel_rfl) rfl (by kernel_rfl)) ?_
  intro W base args ds gs before hval hW _ hk _
  exact contract H enc W base args ds gs before hval hW hk
theorem over : Rows.gfOwnUptoRow.holds Try.pinned (Rows.OpenSpec.upto Rows.gfOwnSpec) :=
  OpenClaim.holds_of_cond 8 Try.f8 rfl rfl rfl rfl rfl rfl rfl ⟨rfl, rfl, rfl, rfl, rfl⟩ rfl rfl rfl rfl rfl (by kernel_rfl) Try.func8 (by kernel_rfl)
    (of_decide_eq_true (by kernel_rfl)) (by unfold Func.isWrapper; first | (rw [if_pos (by decide +kernel)]; kernel_rfl) | (rw [if_neg (by decide +kernel)]; exact ⟨rfl, rfl⟩))
    (fun os started H enc _ F => lifted os started H enc F)
theorem proved : Rows.GfOwnUptoSaid := over
#print axioms proved
end Go.Proofs.Ytldndaimgfegnaa.gfOwn
namespace Go.Proofs.Ytldndaimgfegnaa
/-- The row of the second form, under a short name, for the claim. -/
theorem gfOwn_upto : Rows.GfOwnUptoSaid := gfOwn.proved
end Go.Proofs.Ytldndaimgfegnaa
