/- rs.Parity. -/
import Derived.Test.YtccfnhocjiehnaaAlike
import Derived.Test.YtccfnhocjiehnaaRsTimes
import Derived.Test.YtccfnhocjiehnaaRsNew
namespace Go.Proofs.Ytccfnhocjiehnaa
open Go.RowKit
set_option linter.unusedVariables false
set_option linter.unusedSimpArgs false

theorem makeFunc_run (fn : Fn) (first cap : Array Value) (w : World) : (Instr.makeFunc fn first cap).run Try.prog w = .ok (.func fn first cap) w := rfl
/-- Two variables for the results. -/
theorem box2 (w : World) (x y : Value) (tx ty : TypeId) : Below w.heap.size w ((w.alloc (.cells #[x] tx)).alloc (.cells #[y] ty)) := ((Below.refl _ _).alloc (Nat.le_refl _) _).alloc (by simp) _

/-- The door of a function that gave up. -/
theorem door_up {fn : Func} {R : Ending → World → Prop} {tmps : Array Value} {pe : Addr} {k x : Int} {g : FuncId} {cap : Array Value} {w W2 : World} {v : Value} (hent : ∀ args w, (callFunc g args).run Try.prog w = .ok (.enter g args) w)
    (hc : w.cell? pe = some (.int .i64 x)) (hf : w.frozen? pe = false) (hcall : Calls Try.prog g cap (w.setCell pe (.int .i64 k)) fun e w' => e = .returned (.tuple #[]) ∧ w' = W2)
    (hres : (results fn tmps).run Try.prog W2 = .ok v W2) (hR : R (.returned v) W2) :
    bodyPostD Try.prog fn R (Exit.panic [gaveUp k]) { tmps := tmps, defers := [{ target := .fn (.func 27) #[], args := #[.pointer (some pe), .func (.func g) #[] cap] }] } w := by
  refine leaves_cons (f := 27) (args := #[.pointer (some pe), .func (.func g) #[] cap]) (by simp) (by simp [go_sem]) ?_
  refine (told_up pe k x g hent cap w (· = W2) hc hf hcall).mono ?_
  rintro e u' w'' ⟨rfl, rfl, rfl⟩
  unfold wasUp
  simp [Leaves, settle]
  exact ⟨v, hres, hR⟩
/-- The door of a function that returns. -/
theorem door_ret {fn : Func} {R : Ending → World → Prop} {tmps : Array Value} {pe : Addr} {g : FuncId} {cap : Array Value} {w : World} {v : Value}
    (hres : (results fn tmps).run Try.prog w = .ok v w) (hR : R (.returned v) w) :
    bodyPostD Try.prog fn R Exit.ret { tmps := tmps, defers := [{ target := .fn (.func 27) #[], args := #[.pointer (some pe), .func (.func g) #[] cap] }] } w := by
  refine leaves_cons (f := 27) (args := #[.pointer (some pe), .func (.func g) #[] cap]) (by simp) (by simp [go_sem]) ?_
  refine (told_idle pe g cap w).mono ?_
  rintro e u' w'' ⟨rfl, rfl, rfl⟩
  simp [Leaves, settle]
  exact ⟨v, hres, hR⟩

/-- The two variables of the results, in a later world. -/
structure Two (w w5 : World) (x y : Value) (tx ty : TypeId) : Prop where
  one : w5.heap[w.heap.size]? = some (.cells #[x] tx (0, 0))
  two : w5.heap[w.heap.size + 1]? = some (.cells #[y] ty (0, 0))
  below : Below w.heap.size w w5
theorem Two.start (w : World) (x y : Value) (tx ty : TypeId) : Two w ((w.alloc (.cells #[x] tx)).alloc (.cells #[y] ty)) x y tx ty :=
  ⟨heap_alloc2_old w _ _, heap_alloc2_new w _ _, box2 w x y tx ty⟩
theorem Two.over {w w5 w6 : World} {x y : Value} {tx ty : TypeId} (h : Two w w5 x y tx ty) (hb : Below w5.heap.size w5 w6) : Two w w6 x y tx ty := by
  have h1 := (Array.getElem?_eq_some_iff.1 h.one).1
  have h2 := (Array.getElem?_eq_some_iff.1 h.two).1
  exact ⟨(hb.block _ h1).trans h.one, (hb.block _ h2).trans h.two, below_then h.below h.below.size hb⟩
theorem Two.cell1 {w w5 : World} {x y : Value} {tx ty : TypeId} (h : Two w w5 x y tx ty) : w5.cell? ⟨w.heap.size, 0, none⟩ = some x := by
  rw [cell_of_row w5 _ 0 _ _ _ h.one]; rfl
theorem Two.cell2 {w w5 : World} {x y : Value} {tx ty : TypeId} (h : Two w w5 x y tx ty) : w5.cell? ⟨w.heap.size + 1, 0, none⟩ = some y := by
  rw [cell_of_row w5 _ 0 _ _ _ h.two]; rfl
theorem Two.frz1 {w w5 : World} {x y : Value} {tx ty : TypeId} (h : Two w w5 x y tx ty) : w5.frozen? ⟨w.heap.size, 0, none⟩ = false := frozen_of_row w5 _ 0 _ _ h.one
theorem Two.frz2 {w w5 : World} {x y : Value} {tx ty : TypeId} (h : Two w w5 x y tx ty) : w5.frozen? ⟨w.heap.size + 1, 0, none⟩ = false := frozen_of_row w5 _ 0 _ _ h.two
theorem Two.set2 {w w5 : World} {x y : Value} {tx ty : TypeId} (h : Two w w5 x y tx ty) (u : Value) : Two w (w5.setCell ⟨w.heap.size + 1, 0, none⟩ u) x u tx ty :=
  ⟨(heap_setCell_other w5 _ _ u (by simp)).trans h.one, by rw [heap_setCell_same w5 _ 0 _ _ u h.two]; rfl, h.below.setCell (by simp) u⟩
theorem Two.set1 {w w5 : World} {x y : Value} {tx ty : TypeId} (h : Two w w5 x y tx ty) (u : Value) : Two w (w5.setCell ⟨w.heap.size, 0, none⟩ u) u y tx ty :=
  ⟨by rw [heap_setCell_same w5 _ 0 _ _ u h.one]; rfl, (heap_setCell_other w5 _ _ u (by simp)).trans h.two, h.below.setCell (Nat.le_refl _) u⟩
theorem two_up {fn : Func} {R : Ending → World → Prop} {tmps : Array Value} {k y : Int} {x z : Value} {tx ty : TypeId} {g : FuncId} {w w5 : World} (hent : ∀ args w, (callFunc g args).run Try.prog w = .ok (.enter g args) w)
    (h : Two w w5 x (.int .i64 y) tx ty) (hcall : ∀ W, W.cell? ⟨w.heap.size, 0, none⟩ = some x → W.frozen? ⟨w.heap.size, 0, none⟩ = false → Calls Try.prog g #[.pointer (some ⟨w.heap.size, 0, none⟩)] W fun e w' => e = .returned (.tuple #[]) ∧ w' = W.setCell ⟨w.heap.size, 0, none⟩ z)
    (hres : ∀ W, W.cell? ⟨w.heap.size, 0, none⟩ = some z → W.cell? ⟨w.heap.size + 1, 0, none⟩ = some (.int .i64 k) → (results fn tmps).run Try.prog W = .ok (.tuple #[z, .int .i64 k]) W)
    (hR : ∀ W, Below w.heap.size w W → R (.returned (.tuple #[z, .int .i64 k])) W) :
    bodyPostD Try.prog fn R (Exit.panic [gaveUp k]) { tmps := tmps, defers := [{ target := .fn (.func 27) #[], args := #[.pointer (some ⟨w.heap.size + 1, 0, none⟩), .func (.func g) #[] #[.pointer (some ⟨w.heap.size, 0, none⟩)]] }] } w5 :=
  have h1 := h.set2 (.int .i64 k)
  have h2 := h1.set1 z
  door_up hent h.cell2 h.frz2 (hcall _ h1.cell1 h1.frz1) (hres _ h2.cell1 h2.cell2) (hR _ h2.below)

set_option maxRecDepth 100000 in
set_option maxHeartbeats 4000000 in
theorem par_no1 (b k m : Nat) (A : Option Addr) (s c : Nat) (L : Nat → Nat) (G : Nat → Nat → Gf.E) (w : World) (hc : CodeR w b k m) (ha : RdM w A s L G) (hs : s ≤ 1048576) (hl : ∀ i, i < s → L i ≤ 1048576) (hf : alikeB s k L = false) :
    Calls Try.prog 21 #[.pointer (some ⟨b, 0, none⟩), .slice A s c] w fun e w' => e = .returned (.tuple #[.slice none 0 0, .int .i64 1]) ∧ Below w.heap.size w w' := by
  have hmf := makeFunc_run
  have hb := box2 w (.slice none 0 0) (.int .i64 0) 28 25
  have hT := Two.start w (.slice none 0 0) (.int .i64 0) 28 25
  have HT := Lib.hid hT
  obtain ⟨c1, c2, _⟩ := hc.below hb
  obtain ⟨Ar, Cr, hr, _⟩ := ha.below hb
  have HAL := Lib.hid (alike_c A s c k L Ar Cr _ hr (by omega) (fun i hi => by have := hl i hi; omega) (by omega))
  rw [Int.toNat_natCast, hf] at HAL
  clear hc ha hb hr hl hT hf
  go_enter_defers Try.func21, Try.ntmps21
  go_wp2_with (fail)
  refine HAL.out.mono ?_
  rintro e w' ⟨rfl, ⟨h, _⟩ | ⟨_, rfl⟩⟩
  · cases h
  · go_wp2
    refine two_up (fun _ _ => rfl) HT.out (fun W h1 h2 => zero1_c _ _ W h1 h2) (fun W h1 h2 => by simp [results, Try.results21, go_sem, h1, h2]) (fun W hW => ⟨rfl, hW⟩)

set_option maxRecDepth 100000 in
set_option maxHeartbeats 4000000 in
theorem par_no2 (b k m : Nat) (A : Option Addr) (s c : Nat) (L : Nat → Nat) (G : Nat → Nat → Gf.E) (w : World) (hc : CodeR w b k m) (ha : RdM w A s L G) (hs : s ≤ 1048576) (hl : ∀ i, i < s → L i ≤ 1048576) (hf : alikeB s k L = true) (hm : anyB (noneB L) s = true) :
    Calls Try.prog 21 #[.pointer (some ⟨b, 0, none⟩), .slice A s c] w fun e w' => e = .returned (.tuple #[.slice none 0 0, .int .i64 1]) ∧ Below w.heap.size w w' := by
  have hmf := makeFunc_run
  have hb := box2 w (.slice none 0 0) (.int .i64 0) 28 25
  have hT := Two.start w (.slice none 0 0) (.int .i64 0) 28 25
  have HT := Lib.hid hT
  obtain ⟨c1, c2, _⟩ := hc.below hb
  obtain ⟨Ar, Cr, hr, _⟩ := ha.below hb
  have HAL := Lib.hid (alike_c A s c k L Ar Cr _ hr (by omega) (fun i hi => by have := hl i hi; omega) (by omega))
  rw [Int.toNat_natCast, hf] at HAL
  have HMI := Lib.hid (missing_c A s c L Ar Cr _ hr (by omega) (fun i hi => by have := hl i hi; omega))
  have HMI2 := Lib.hid (fun r (h : IsFirst (noneB L) s r) => show (0 : Int) ≤ r from by
    rcases h with ⟨i, _, _, _, rfl⟩ | ⟨h, rfl⟩
    · omega
    · obtain ⟨i, hi, hp⟩ := of_decide_eq_true hm
      rw [h i hi] at hp
      cases hp)
  clear hc ha hb hr hl hT hf hm
  go_enter_defers Try.func21, Try.ntmps21
  go_wp2_with (fail)
  refine HAL.out.mono ?_
  rintro e w' ⟨rfl, ⟨_, rfl⟩ | ⟨h, _⟩⟩
  · go_wp2_with (fail)
    refine HMI.out.mono ?_
    rintro e w' ⟨r, rfl, hF, hd⟩
    have hr0 := HMI2.out r hF
    replace hd := Lib.hid hd
    clear hF
    go_wp2_with (fail)
    refine (give_c 1 _).mono ?_
    rintro e w'' ⟨rfl, rfl⟩
    go_wp2
    refine two_up (fun _ _ => rfl) (HT.out.over hd.out.below) (fun W h1 h2 => zero1_c _ _ W h1 h2) (fun W h1 h2 => by simp [results, Try.results21, go_sem, h1, h2]) (fun W hW => ⟨rfl, hW⟩)
  · cases h
theorem two_ret {fn : Func} {R : Ending → World → Prop} {tmps : Array Value} {x y : Value} {tx ty : TypeId} {g : FuncId} {w w5 : World} (h : Two w w5 x y tx ty)
    (hres : ∀ W, W.cell? ⟨w.heap.size, 0, none⟩ = some x → W.cell? ⟨w.heap.size + 1, 0, none⟩ = some y → (results fn tmps).run Try.prog W = .ok (.tuple #[x, y]) W) (hR : R (.returned (.tuple #[x, y])) w5) :
    bodyPostD Try.prog fn R Exit.ret { tmps := tmps, defers := [{ target := .fn (.func 27) #[], args := #[.pointer (some ⟨w.heap.size + 1, 0, none⟩), .func (.func g) #[] #[.pointer (some ⟨w.heap.size, 0, none⟩)]] }] } w5 :=
  door_ret (hres _ h.cell1 h.cell2) hR
theorem RdM.len {w : World} {A : Option Addr} {n : Nat} {L M : Nat → Nat} {F : Nat → Nat → Gf.E} (h : RdM w A n L F) (e : ∀ i, i < n → L i = M i) : RdM w A n M F := by
  obtain ⟨Ar, Cr, h1, h2⟩ := h
  exact ⟨Ar, Cr, h1.congr (fun i hi => by rw [e i hi]), fun i hi => by rw [← e i hi]; exact h2 i hi⟩
theorem maxL_const (q : Nat) : ∀ {n : Nat}, 0 < n → maxL (fun _ => q) n = q
  | 1, _ => by simp [maxL]
  | n + 2, _ => by
    have := maxL_const q (show 0 < n + 1 by omega)
    simp only [maxL] at this ⊢
    omega
theorem alike_const {k q : Nat} (hk : 0 < k) : alikeB k k (fun _ => q) = true := decide_eq_true ⟨rfl, fun i hi => .inr (maxL_const q hk).symm⟩
theorem none_const {k q : Nat} (hq : 0 < q) {r : Int} (h : IsFirst (noneB fun _ => q) k r) : r = -1 := by
  rcases h with ⟨i, _, hp, _⟩ | ⟨_, h⟩
  · have h0 : q = 0 := of_decide_eq_true hp
    omega
  · exact h

set_option maxRecDepth 100000 in
set_option maxHeartbeats 4000000 in
theorem par_zero (b k : Nat) (A : Option Addr) (c q : Nat) (G : Nat → Nat → Gf.E) (w : World) (hc : CodeR w b k 0) (ha : RdM w A k (fun _ => q) G) (hk : 1 ≤ k) (hk2 : k ≤ 255) (hq : 1 ≤ q) (hq2 : q ≤ 1048576) :
    Calls Try.prog 21 #[.pointer (some ⟨b, 0, none⟩), .slice A k c] w fun e w' => e = .returned (.tuple #[.slice none 0 0, .int .i64 0]) ∧ Below w.heap.size w w' := by
  have hmf := makeFunc_run
  have hb := box2 w (.slice none 0 0) (.int .i64 0) 28 25
  have hT := Two.start w (.slice none 0 0) (.int .i64 0) 28 25
  have HT := Lib.hid hT
  have hc' := hc.below hb
  obtain ⟨c1, c2, _⟩ := hc'
  have HC2 := Lib.hid c2
  obtain ⟨Ar, Cr, hr, _⟩ := ha.below hb
  have HAL := Lib.hid (alike_c A k c k (fun _ => q) Ar Cr _ hr (by omega) (fun i hi => by omega) (by omega))
  rw [Int.toNat_natCast, alike_const (by omega)] at HAL
  have HMI := Lib.hid (missing_c A k c (fun _ => q) Ar Cr _ hr (by omega) (fun i hi => by omega))
  clear hc ha hb hr hT c2
  go_enter_defers Try.func21, Try.ntmps21
  go_wp2_with (fail)
  refine HAL.out.mono ?_
  rintro e w' ⟨rfl, ⟨_, rfl⟩ | ⟨h, _⟩⟩
  · go_wp2_with (fail)
    refine HMI.out.mono ?_
    rintro e w' ⟨r, rfl, hF, hd⟩
    obtain rfl := none_const hq hF
    have c2 := cell_below hd.below HC2.out
    have hT2 := HT.out.over hd.below
    have p1 := hT2.cell1
    have p2 := hT2.cell2
    have z1 := hT2.frz1
    have z2 := hT2.frz2
    have hT3 := Lib.hid ((hT2.set1 (.slice none 0 0)).set2 (.int .i64 0))
    clear hF hd hT2
    go_wp2
    refine two_ret hT3.out (fun W h1 h2 => by simp [results, Try.results21, go_sem, h1, h2]) ⟨rfl, hT3.out.below⟩
  · cases h

set_option maxRecDepth 100000 in
set_option maxHeartbeats 4000000 in
theorem par_yes (b k m : Nat) (A : Option Addr) (c q : Nat) (G : Nat → Nat → Gf.E) (w : World) (hc : CodeR w b k m) (ha : RdM w A k (fun _ => q) G) (hk : 1 ≤ k) (hm : 1 ≤ m) (hk2 : k + m ≤ 255) (hq : 1 ≤ q) (hq2 : q ≤ 1048576) :
    Calls Try.prog 21 #[.pointer (some ⟨b, 0, none⟩), .slice A k c] w fun e w' => ∃ v, e = .returned (.tuple #[v, .int .i64 0]) ∧ NewMat w w' v m q (timesF (cauE k) G k) := by
  have hmf := makeFunc_run
  have hb := box2 w (.slice none 0 0) (.int .i64 0) 28 25
  have hT := Two.start w (.slice none 0 0) (.int .i64 0) 28 25
  have HT := Lib.hid hT
  have hc' := hc.below hb
  obtain ⟨c1, c2, P, pc, c3, hpc, _, hP⟩ := hc'
  have HC2 := Lib.hid c2
  have HC3 := Lib.hid c3
  have HP := Lib.hid hP
  have HA := Lib.hid (ha.below hb)
  obtain ⟨Ar, Cr, hr, _⟩ := ha.below hb
  have HAL := Lib.hid (alike_c A k c k (fun _ => q) Ar Cr _ hr (by omega) (fun i hi => by omega) (by omega))
  rw [Int.toNat_natCast, alike_const (by omega)] at HAL
  have HMI := Lib.hid (missing_c A k c (fun _ => q) Ar Cr _ hr (by omega) (fun i hi => by omega))
  have m0 : ((m : Int) == 0) = false := by rw [beq_eq_false_iff_ne]; omega
  clear hc ha hb hr hT c2 c3 hP
  go_enter_defers Try.func21, Try.ntmps21
  go_wp2_with (fail)
  refine HAL.out.mono ?_
  rintro e w' ⟨rfl, ⟨_, rfl⟩ | ⟨h, _⟩⟩
  · go_wp2_with (fail)
    refine HMI.out.mono ?_
    rintro e w' ⟨r, rfl, hF, hd⟩
    obtain rfl := none_const hq hF
    have c2 := cell_below hd.below HC2.out
    have c3 := cell_below hd.below HC3.out
    have HX := Lib.hid (rstimes_c P A m pc k c q (fun _ => k) (cauE k) G w' (HP.out.below hd.below) (HA.out.below hd.below) (by omega) (by omega) hq2 hk hq (fun _ _ => Nat.le_refl _) (fun _ _ => by omega))
    have HT2 := Lib.hid (HT.out.over hd.below)
    clear hF hd
    go_wp2_with (fail)
    refine HX.out.mono ?_
    rintro e w5 ⟨v, rfl, g, cap, bs, rfl, hcap, hM⟩
    have hT2 := HT2.out.over hM.2.2.2.2
    have p1 := hT2.cell1
    have p2 := hT2.cell2
    have z1 := hT2.frz1
    have z2 := hT2.frz2
    have hT3 := Lib.hid ((hT2.set1 (.slice (some ⟨g, 0, none⟩) m cap)).set2 (.int .i64 0))
    have hM2 := (hM.1.far (a := ⟨w.heap.size, 0, none⟩) hT2.one (by decide) (by decide) (.slice (some ⟨g, 0, none⟩) m cap)).far (a := ⟨w.heap.size + 1, 0, none⟩) (hT2.set1 _).two (by decide) (by decide) (.int .i64 0)
    have HM := Lib.hid hM
    have HM2 := Lib.hid hM2
    have HB0 := Lib.hid HT2.out.below
    clear hT2 hM hM2
    go_wp2
    refine two_ret hT3.out (fun W h1 h2 => by simp [results, Try.results21, go_sem, h1, h2]) ⟨_, rfl, g, cap, bs, rfl, hcap, HM2.out, ?_, fun i hi => ?_, HM.out.2.2.2.1, hT3.out.below⟩
    · have := HM.out.2.1; have := HB0.out.size; omega
    · have := HM.out.2.2.1 i hi; have := HB0.out.size; omega
  · cases h
end Go.Proofs.Ytccfnhocjiehnaa
