/- gf's Inverse. -/
import Derived.Test.YtccfnhocjiehnaaGj
import Derived.Deep.RegionHeld3
namespace Go.Proofs.Ytccfnhocjiehnaa
open Go.RowKit
set_option linter.unusedVariables false
set_option linter.unusedSimpArgs false

theorem box1 (w : World) (x : Value) (tx : TypeId) (hx : x.oneCell' = true) : (w.alloc (.cells #[x] tx)).cell? ⟨w.heap.size, 0, none⟩ = some x ∧ Below w.heap.size w (w.alloc (.cells #[x] tx)) := by
  refine ⟨?_, (Below.refl _ _).alloc (Nat.le_refl _) _⟩
  rw [World.cell?_alloc_at _ _ _ _ rfl]; rfl

set_option maxRecDepth 100000 in
set_option maxHeartbeats 4000000 in
theorem inverse_no1 (A : Option Addr) (n c : Nat) (L : Nat → Nat) (F : Mt) (w : World) (ha : RdM w A n L F) (hn : n ≤ 4611686018427387904) (hl : ∀ i, i < n → L i ≤ 4611686018427387904) (hf : rightB n L = false ∨ (rightB n L = true ∧ n ≠ L 0)) :
    Calls Try.prog 53 #[.slice A n c] w fun e w' => e = .returned (.tuple #[.slice none 0 0, .int .i64 1]) ∧ Below w.heap.size w w' := by
  obtain ⟨k1, hb⟩ := box1 w (.slice A n c) 55 rfl
  have HB := Lib.hid hb
  have HR := Lib.hid (fun x : Over (w.alloc (.cells #[.slice A n c] 55)) => gright_c A n c L F x.w1 ((ha.below hb).below x.h) hn hl)
  have j1 := fun x : Over (w.alloc (.cells #[.slice A n c] 55)) => x.cell k1
  rcases hf with hf | ⟨hf, hne⟩
  · rw [hf] at HR
    clear ha hl hf hb k1
    go_enter Try.func53, Try.ntmps53
    go_wp2_with (fail)
    refine wp_region_over _ (by kernel_rfl) (by kernel_rfl) (Below.refl _ _) ?_
    repeat (go_big_quiet_step (first | (go_at_call 63; with_reducible exact Over.call _ (HR.out _))))
    refine wpQuiet_nil ?_
    rintro _ ⟨x, rfl⟩
    go_wp2
    go_ret2
    exact ⟨rfl, below_then HB.out HB.out.size x.h⟩
  · obtain ⟨p1, p2, p3, p4, p5⟩ := rightB_pos hf
    obtain ⟨Ar, Cr, hr, _⟩ := ha.below hb
    obtain ⟨ad, rfl, k3⟩ := hr.at_ (show 0 < n by omega)
    rw [show ad.add 0 = ad by simp [Addr.add]] at k3
    have j3 := fun x : Over (w.alloc (.cells #[.slice (some ad) n c] 55)) => x.cell k3
    have n1 : (0 : Int) < (n : Int) := by omega
    have n2 : ((n : Int) != ((L 0 : Nat) : Int)) = true := by rw [bne_iff_ne]; omega
    rw [hf] at HR
    clear ha hl hf hb k1 k3 hr p5 hne
    go_enter Try.func53, Try.ntmps53
    go_wp2_with (fail)
    refine wp_region_over _ (by kernel_rfl) (by kernel_rfl) (Below.refl _ _) ?_
    repeat (go_big_quiet_step (first | (go_at_call 63; with_reducible exact Over.call _ (HR.out _))))
    refine wpQuiet_nil ?_
    rintro _ ⟨x, rfl⟩
    go_wp2
    go_ret2
    exact ⟨rfl, below_then HB.out HB.out.size x.h⟩

theorem OwnMat.lower {w w1 wr : World} {g n m : Nat} {bs : Nat → Nat} {F : Mt} (h : OwnMat w1 wr g n m bs F) (hb : Below w.heap.size w w1) : OwnMat w wr g n m bs F := by
  obtain ⟨h1, h2, h3, h4, h5⟩ := h
  have := hb.size
  exact ⟨h1, by omega, fun i hi => by have := h3 i hi; omega, h4, below_then hb hb.size h5⟩
theorem OwnMat.over {w wr w1 : World} {g n m : Nat} {bs : Nat → Nat} {F : Mt} (h : OwnMat w wr g n m bs F) (hb : Below wr.heap.size wr w1) : OwnMat w w1 g n m bs F := by
  obtain ⟨h1, h2, h3, h4, h5⟩ := h
  exact ⟨h1.below hb, h2, h3, h4, below_then h5 h5.size hb⟩
theorem RowAt.box (w : World) (x : Value) (t : TypeId) : RowAt (w.alloc (.cells #[x] t)) w.heap.size t 1 (fun _ => x) :=
  RowAt.of_is ⟨#[x], by exact heap_alloc_new w _, rfl, fun i hi => by rw [show i = 0 by omega]; rfl⟩
theorem RowAt.rdFrom {w : World} {b n k : Nat} {t : TypeId} {f : Nat → Value} (h : RowAt w b t n f) : RdF w (some ⟨b, k, none⟩) (n - k) (fun i => f (k + i)) := by
  intro hn
  refine ⟨_, rfl, fun j hj => ?_⟩
  have e : (⟨b, k, none⟩ : Addr).add j = ⟨b, k + j, none⟩ := by unfold Addr.add; split <;> simp_all
  rw [e]
  exact h.cell (by omega)
/-- The search of a pivot, in Inverse's k-th round. -/
theorem pivot_c {w wr : World} {n b5 b6 ga go ca co k kb cc : Nat} {bsa bso : Nat → Nat} {A O : Mt} (h : InvR w wr n b5 b6 ga go ca co bsa bso A O) (hn : n ≤ 255) (hk : k < n) (hkb : RowAt wr kb 3 1 (fun _ => .int .i64 k)) :
    Calls Try.prog 66 #[.slice (some ⟨ga, k, none⟩) (n - k) cc, .func (.func 67) #[] #[.pointer (some ⟨kb, 0, none⟩)]] wr fun e w' =>
      ((∃ p : Nat, p < n - k ∧ pivot n k A = some p ∧ e = .returned (.int .i64 p)) ∨ (pivot n k A = none ∧ e = .returned (.int .i64 (-1)))) ∧ Drew wr w' := by
  obtain ⟨⟨cs, h1, h2⟩, _⟩ := h.ma
  refine (idx_c 67 (fun _ _ => rfl) #[.pointer (some ⟨kb, 0, none⟩)] (fun q => nz (A (k + q) k)) (some ⟨ga, k, none⟩) (n - k) cc _ wr (by omega) h1.rdFrom (fun i w' hi hd => ?_)).mono ?_
  · refine (inv3_c (bsa (k + i)) n (cs (k + i)) k kb (A (k + i)) w' hk hn ((h2 (k + i) (by omega)).2.below hd.below) (hd.cell (hkb.cell (by omega)))).mono ?_
    rintro e w5 ⟨rfl, rfl⟩
    exact ⟨rfl, hd⟩
  · rintro e w5 ⟨r, rfl, hf, hd⟩
    refine ⟨?_, hd⟩
    rcases first_find hf with ⟨i, rfl, hi, hp⟩ | ⟨rfl, hp⟩
    · exact .inl ⟨i, hi, hp, rfl⟩
    · exact .inr ⟨hp, rfl⟩
/-- The start of Inverse's loop. -/
theorem inv_start {w w1 w2 w3 : World} {n ga go ca co : Nat} {bsa bso : Nat → Nat} {F : Mt} (hx : Below w.heap.size w w1) (hMa : OwnMat w1 w2 ga n n bsa F) (hca : n ≤ ca) (hco : n ≤ co)
    (hMo : OwnMat (w2.alloc (.cells #[.slice (some ⟨ga, 0, none⟩) n ca] 55)) w3 go n n bso unitE) :
    InvR w (w3.alloc (.cells #[.slice (some ⟨go, 0, none⟩) n co] 55)) n w2.heap.size w3.heap.size ga go ca co bsa bso F unitE := by
  have b3 := hMo.2.2.2.2
  have bA := box_below w2 (.cells #[.slice (some ⟨ga, 0, none⟩) n ca] 55)
  have bB := box_below w3 (.cells #[.slice (some ⟨go, 0, none⟩) n co] 55)
  have b12 := hMa.2.2.2.2
  obtain ⟨_, fa⟩ := hMa.outer
  have l1 := fa.lt
  have l2 := hMo.2.1
  have hs : (w2.alloc (.cells #[.slice (some ⟨ga, 0, none⟩) n ca] 55)).heap.size = w2.heap.size + 1 := by simp
  refine ⟨((hMa.lower hx).over bA).over b3 |>.over bB, (hMo.lower (below_then (below_then hx hx.size b12) (by have := hx.size; have := b12.size; omega) bA)).over bB, by omega, fun i j hi hj => ?_, ((RowAt.box w2 _ _).below b3).below bB, RowAt.box w3 _ _, hca, hco⟩
  have := (hMa.rowAt hi).lt
  have := hMo.2.2.1 j hj
  omega

/-- After k rounds of Inverse's loop. -/
def InvK (w wr : World) (n b5 b6 ga go ca co k : Nat) (F : Mt) : Prop := ∃ bsa bso A O, InvR w wr n b5 b6 ga go ca co bsa bso A O ∧ gjTo n F k = some (A, O)

theorem div1_v (y : Gf.E) (w : World) : Calls Try.prog 48 #[.int .u8 1, .int .u8 (y.val : Int)] w fun e w' => e = .returned (.tuple #[.int .u8 ((divE 1 y).val : Int), .int .i64 (divX y)]) ∧ w = w' := div_c 1 y w

theorem keep4 {w w1 : World} {a b c d : Addr} {x y z u : Value} (h : Below w.heap.size w w1) (h1 : w.cell? a = some x) (h2 : w.cell? b = some y) (h3 : w.cell? c = some z) (h4 : w.cell? d = some u) : w1.cell? a = some x ∧ w1.cell? b = some y ∧ w1.cell? c = some z ∧ w1.cell? d = some u :=
  ⟨cell_below h h1, cell_below h h2, cell_below h h3, cell_below h h4⟩
theorem keep5 {w w1 : World} {a b c d q : Addr} {x y z u v : Value} (h : Below w.heap.size w w1) (h1 : w.cell? a = some x) (h2 : w.cell? b = some y) (h3 : w.cell? c = some z) (h4 : w.cell? d = some u) (h5 : w.cell? q = some v) : (w1.cell? a = some x ∧ w1.cell? b = some y ∧ w1.cell? c = some z ∧ w1.cell? d = some u) ∧ w1.cell? q = some v :=
  ⟨keep4 h h1 h2 h3 h4, cell_below h h5⟩
/-- In the midst of round k: i rows are turned. -/
def InvI (w wr : World) (n b5 b6 ga go ca co k i kb : Nat) (s : Mt × Mt) : Prop := ∃ bsa bso, InvR w wr n b5 b6 ga go ca co bsa bso (elimTo k i s).1 (elimTo k i s).2 ∧ RowAt wr kb 3 1 (fun _ => .int .i64 k)
theorem elim_yes {k i : Nat} {s : Mt × Mt} (h1 : i ≠ k) (h2 : (elimTo k i s).1 i k ≠ 0) : elimTo k (i + 1) s = (plusF (elimTo k i s).1 i k ((elimTo k i s).1 i k), plusF (elimTo k i s).2 i k ((elimTo k i s).1 i k)) := by
  show elim1 k i (elimTo k i s) = _
  exact if_pos ⟨h1, h2⟩
theorem elim_no {k i : Nat} {s : Mt × Mt} (h : i = k ∨ (elimTo k i s).1 i k = 0) : elimTo k (i + 1) s = elimTo k i s := by
  show elim1 k i (elimTo k i s) = _
  refine if_neg (fun ⟨h1, h2⟩ => ?_)
  rcases h with h | h
  · exact h1 h
  · exact h2 h
theorem InvR.at_ {w wr : World} {n b5 b6 ga go ca co : Nat} {bsa bso : Nat → Nat} {A O : Mt} (h : InvR w wr n b5 b6 ga go ca co bsa bso A O) {i j : Nat} (hi : i < n) (hj : j < n) :
    ∃ c, wr.cell? ⟨b5, 0, none⟩ = some (.slice (some ⟨ga, 0, none⟩) n ca) ∧ wr.cell? ⟨ga, i, none⟩ = some (.slice (some ⟨bsa i, 0, none⟩) n c) ∧ wr.cell? ⟨bsa i, j, none⟩ = some (.int .u8 ((A i j).val : Int)) := by
  obtain ⟨⟨cs, h1, h2⟩, _⟩ := h.ma
  exact ⟨cs i, h.b5.cell (by omega), h1.cell hi, (h2 i hi).2.cell hj⟩

set_option maxRecDepth 100000 in
set_option maxHeartbeats 16000000 in
theorem inverse_yes (A : Option Addr) (n c : Nat) (L : Nat → Nat) (F : Mt) (w : World) (ha : RdM w A n L F) (hn : n ≤ 4611686018427387904) (hl : ∀ i, i < n → L i ≤ 4611686018427387904) (hf : rightB n L = true) (heq : n = L 0) :
    Calls Try.prog 53 #[.slice A n c] w fun e w' => ∃ v, (∃ A' O', gjTo n F n = some (A', O') ∧ e = .returned (.tuple #[v, .int .i64 0]) ∧ NewMat w w' v n n O') ∨ (gjTo n F n = none ∧ e = .returned (.tuple #[.slice none 0 0, .int .i64 17]) ∧ Below w.heap.size w w') := by
  obtain ⟨k1, hb⟩ := box1 w (.slice A n c) 55 rfl
  have HB := Lib.hid hb
  have HR := Lib.hid (fun x : Over (w.alloc (.cells #[.slice A n c] 55)) => gright_c A n c L F x.w1 ((ha.below hb).below x.h) hn hl)
  have j1 := fun x : Over (w.alloc (.cells #[.slice A n c] 55)) => x.cell k1
  obtain ⟨p1, p2, p3, p4, p5⟩ := rightB_pos hf
  obtain ⟨Ar, Cr, hr, _⟩ := ha.below hb
  have HA := Lib.hid (ha.below hb)
  obtain ⟨ad, rfl, k3⟩ := hr.at_ (show 0 < n by omega)
  rw [show ad.add 0 = ad by simp [Addr.add]] at k3
  have j3 := fun x : Over (w.alloc (.cells #[.slice (some ad) n c] 55)) => x.cell k3
  have n1 : (0 : Int) < (n : Int) := by omega
  have n2 : ((n : Int) != ((L 0 : Nat) : Int)) = false := by rw [bne_eq_false_iff_eq]; omega
  have P5 := Lib.hid p5
  have HE := Lib.hid heq
  rw [hf] at HR
  clear ha hl hf hb k1 k3 hr p5 heq
  go_enter Try.func53, Try.ntmps53
  go_wp2_with (fail)
  refine wp_region_over _ (by kernel_rfl) (by kernel_rfl) (Below.refl _ _) ?_
  repeat (go_big_quiet_step (first | (go_at_call 63; with_reducible exact Over.call _ (HR.out _))))
  refine wpQuiet_nil ?_
  rintro _ ⟨x, rfl⟩
  have i1 := j1 x
  obtain ⟨w1, hx⟩ := x
  replace hx := Lib.hid hx
  simp only at i1
  clear j1 j3 HR
  go_wp2_with (fail)
  refine (made_new 64 (fun _ _ => rfl) #[.pointer (some ⟨w.heap.size, 0, none⟩)] F n n w1 (by omega) (by omega) (fun i j w' hi hj hbw => inv1_c i j (some ad) n c L F w.heap.size w' hi (by rw [P5.out i hi, ← HE.out]; exact hj) (by omega) (by rw [P5.out i hi]; omega) ((HA.out.below hx.out).below hbw) (cell_below hbw i1))).mono ?_
  rintro e w2 ⟨v, rfl, ga, ca, bsa, rfl, hca, hMa⟩
  replace hMa := Lib.hid (show OwnMat w1 w2 ga n n bsa F from hMa)
  go_wp2_with (fail)
  refine (unit_yes n _ (by omega) (by omega)).mono ?_
  rintro e w3 ⟨v, rfl, go, co, bso, rfl, hco, hMo⟩
  replace hMo := Lib.hid (show OwnMat (w2.alloc (.cells #[.slice (some ⟨ga, 0, none⟩) n ca] 55)) w3 go n n bso unitE from hMo)
  have HI := Lib.hid (show InvK w (w3.alloc (.cells #[.slice (some ⟨go, 0, none⟩) n co] 55)) n w2.heap.size w3.heap.size ga go ca co 0 F from ⟨bsa, bso, F, unitE, inv_start (below_then HB.out HB.out.size hx.out) hMa.out hca hco hMo.out, rfl⟩)
  clear hMa hMo HA hx HB i1
  obtain ⟨b5, hb5⟩ : ∃ b, b = w2.heap.size := ⟨_, rfl⟩
  obtain ⟨b6, hb6⟩ : ∃ b, b = w3.heap.size := ⟨_, rfl⟩
  rw [← hb5, ← hb6] at HI
  go_wp2_with (fail)
  rw [← hb5, ← hb6]
  clear hb5 hb6
  go_loopg [40] n (fun kq v40 wr => ∃ k : Nat, k + kq = n ∧ v40 = .int .i64 (k : Int) ∧ Hid (InvK w wr n b5 b6 ga go ca co k F))
  case atStart => exact ⟨0, by omega, rfl, HI⟩
  case round =>
    clear HI
    obtain ⟨k, hk, rfl, HI⟩ := hrel
    by_cases hlt : k < n
    · obtain ⟨bsa', bso', A', O', hI, hgj⟩ := HI.out
      have HJ := Lib.hid hI
      have HG := Lib.hid hgj
      have i5 := (hI.over (box_below wr (.cells #[.int .i64 k] 3))).b5.cell (show 0 < 1 by omega)
      have hkb := RowAt.box wr (.int .i64 k) 3
      have HKB := Lib.hid hkb
      have hkc := hkb.cell (show 0 < 1 by omega)
      have hk1 : (k : Int) < (n : Int) := by omega
      have hk0 : (0 : Int) ≤ (k : Int) := by omega
      clear hI hgj HI hkb
      go_wp2_with (fail)
      have hW : InvR w (wr.alloc (.cells #[.int .i64 k] 3)) n b5 b6 ga go ca co bsa' bso' A' O' := HJ.out.over (box_below wr _)
      refine (pivot_c hW (by omega) hlt HKB.out).mono ?_
      rintro e w2 ⟨hp | ⟨hp, rfl⟩, hd⟩
      · obtain ⟨p, hpn, hpiv, rfl⟩ := hp
        have HW := Lib.hid (hW.over hd.below)
        have HKB2 := Lib.hid (HKB.out.below hd.below)
        have HPV := Lib.hid hpiv
        clear hW hpiv HKB hkc i5 hd HJ
        go_wp2_with (fail)
        have hP := box_below w2 (.cells #[.int .i64 p] 3)
        refine (both_swap (p := p) (HW.out.over hP) (by omega) hlt (by omega) (HKB2.out.below hP) (RowAt.box w2 _ _)).mono ?_
        rintro e w3 ⟨rfl, hI3, hK3⟩
        have hkb3 := Lib.hid (hK3 _ _ _ _ (by decide) (by decide) (HKB2.out.below hP))
        replace hI3 := Lib.hid hI3
        obtain ⟨c5, f1, f2, f3⟩ := hI3.out.at_ hlt hlt
        have f4 := hkb3.out.cell (show 0 < 1 by omega)
        clear HW HKB2 hP hK3
        go_wp2
        have HW4 : Hid (InvR w (w3.alloc (.cells #[.int .u8 ((divE 1 (swapF A' k (k + p) k k)).val : Int)] 5)).drew n b5 b6 ga go ca co (swapN bsa' k (k + p)) (swapN bso' k (k + p)) (swapF A' k (k + p)) (swapF O' k (k + p)) ∧ RowAt (w3.alloc (.cells #[.int .u8 ((divE 1 (swapF A' k (k + p) k k)).val : Int)] 5)).drew wr.heap.size 3 1 (fun _ => .int .i64 k) ∧ RowAt (w3.alloc (.cells #[.int .u8 ((divE 1 (swapF A' k (k + p) k k)).val : Int)] 5)).drew w3.heap.size 5 1 (fun _ => vb (divE 1 (swapF A' k (k + p) k k)))) := by
          have hb := (box_below w3 (.cells #[.int .u8 ((divE 1 (swapF A' k (k + p) k k)).val : Int)] 5)).drew
          exact Lib.hid ⟨hI3.out.over hb, hkb3.out.below hb, RowAt.box w3 _ _⟩
        have HNB : Hid (∀ i, i < n → swapN bsa' k (k + p) i ≠ w3.heap.size) := Lib.hid fun i hi => Nat.ne_of_lt (hI3.out.ma.rowAt hi).lt
        have HGS : Hid (gjTo n F (k + 1) = some (elimTo k n (gjPre k p (A', O')))) := Lib.hid (by simp only [gjTo, HG.out]; show gjStep n k (A', O') = _; unfold gjStep; rw [HPV.out]; rfl)
        clear HPV
        go_cut [11, 12] from 53 to 63 (fun v11 v12 wx => v11 = .pointer (some ⟨w3.heap.size, 0, none⟩) ∧ Hid (InvR w wx n b5 b6 ga go ca co (swapN bsa' k (k + p)) (swapN bso' k (k + p)) (swapF A' k (k + p)) (swapF O' k (k + p)) ∧ RowAt wx wr.heap.size 3 1 (fun _ => .int .i64 k) ∧ RowAt wx w3.heap.size 5 1 (fun _ => vb (divE 1 (swapF A' k (k + p) k k)))))
        case first =>
          go_region_held3 (fun w' => w'.cell? ⟨b5, 0, none⟩ = some (.slice (some ⟨ga, 0, none⟩) n ca) ∧ w'.cell? ⟨ga, k, none⟩ = some (.slice (some ⟨swapN bsa' k (k + p) k, 0, none⟩) n c5) ∧ w'.cell? ⟨swapN bsa' k (k + p) k, k, none⟩ = some (.int .u8 ((swapF A' k (k + p) k k).val : Int)) ∧ w'.cell? ⟨wr.heap.size, 0, none⟩ = some (.int .i64 k)) (first | exact keep4 (Below.refl _ _).drew f1 f2 f3 f4 | exact keep4 ((Below.refl _ _).drew.alloc (Nat.le_refl _) _) f1 f2 f3 f4 | exact keep4 (((Below.refl _ _).drew.alloc (Nat.le_refl _) _).setCell (Nat.le_refl _) _) f1 f2 f3 f4) (first | (go_at_call 48; ((with_reducible refine (div1_v _ _).mono ?_)); rintro e w' ⟨rfl, rfl⟩))
          all_goals (go_wp2_with (fail); go_meet; exact ⟨rfl, HW4⟩)
        case rest =>
          obtain ⟨rfl, HC4⟩ := hcut
          clear HW4 hI3 hkb3 f1 f2 f3 f4 HG
          obtain ⟨hI4, hkb4, hxb4⟩ := HC4.out
          obtain ⟨_, fo⟩ := hI4.mo.outer
          go_wp2_with (fail)
          refine (both_scale hI4 (by omega) hlt hkb4 hxb4 (fun i hi e => HNB.out i hi e.symm)).mono ?_
          rintro e w5 ⟨rfl, hI5, hK5⟩
          have HI := Lib.hid (show InvI w w5 n b5 b6 ga go ca co k 0 wr.heap.size (gjPre k p (A', O')) from ⟨_, _, hI5, hK5 _ _ _ _ (by decide) (by decide) hkb4⟩)
          clear hI5 hK5 hI4 hkb4 hxb4 HC4 HNB fo
          obtain ⟨kb, hkbe⟩ : ∃ b, b = wr.heap.size := ⟨_, rfl⟩
          obtain ⟨sp, hsp⟩ : ∃ s, s = gjPre k p (A', O') := ⟨_, rfl⟩
          rw [← hkbe, ← hsp] at HI
          rw [← hsp] at HGS
          clear hsp
          go_wp2_with (fail)
          rw [← hkbe]
          clear hkbe
          go_loopg [68] n (fun kq v68 wq => ∃ i : Nat, i + kq = n ∧ v68 = .int .i64 (i : Int) ∧ Hid (InvI w wq n b5 b6 ga go ca co k i kb sp))
          case atStart => exact ⟨0, by omega, rfl, HI⟩
          case round =>
            clear HI
            obtain ⟨i, hi, rfl, HI⟩ := hrel
            by_cases hlt2 : i < n
            · obtain ⟨bsq, boq, hI, hkb⟩ := HI.out
              have hb := box_below wr (.cells #[.int .i64 i] 3)
              have hIq := Lib.hid (hI.over hb)
              have hkq := Lib.hid (hkb.below hb)
              have hiq := RowAt.box wr (.int .i64 i) 3
              obtain ⟨cq, f1, f2, f3⟩ := hIq.out.at_ hlt2 hlt
              have f4 := hkq.out.cell (show 0 < 1 by omega)
              have f5 := hiq.cell (show 0 < 1 by omega)
              obtain ⟨x, hx⟩ : ∃ x, x = (elimTo k i sp).1 i k := ⟨_, rfl⟩
              rw [← hx] at f3
              have HX := Lib.hid hx
              have HIQ := Lib.hid hiq
              obtain ⟨wb, hwb⟩ : ∃ b, b = wr.alloc (.cells #[.int .i64 i] 3) := ⟨_, rfl⟩
              have HS : Hid (InvR w (wb.alloc (.cells #[.int .u8 (x.val : Int)] 5)).drew n b5 b6 ga go ca co bsq boq (elimTo k i sp).1 (elimTo k i sp).2 ∧ RowAt (wb.alloc (.cells #[.int .u8 (x.val : Int)] 5)).drew kb 3 1 (fun _ => .int .i64 k) ∧ RowAt (wb.alloc (.cells #[.int .u8 (x.val : Int)] 5)).drew wr.heap.size 3 1 (fun _ => .int .i64 i) ∧ RowAt (wb.alloc (.cells #[.int .u8 (x.val : Int)] 5)).drew wb.heap.size 5 1 (fun _ => vb x) ∧ ∀ i, i < n → wb.heap.size ≠ bsq i) := by
                have hb := (box_below wb (.cells #[.int .u8 (x.val : Int)] 5)).drew
                subst hwb
                exact Lib.hid ⟨hIq.out.over hb, hkq.out.below hb, HIQ.out.below hb, RowAt.box _ _ _, fun q hq e => Nat.lt_irrefl _ (e ▸ (hIq.out.ma.rowAt hq).lt)⟩
              have hk1 : (k : Int) < (n : Int) := by omega
              have hk0 : (0 : Int) ≤ (k : Int) := by omega
              have hi1 : (i : Int) < (n : Int) := by omega
              have hi0 : (0 : Int) ≤ (i : Int) := by omega
              clear HI hI hkb hIq hkq HIQ hiq hb hx
              rw [← hwb] at f1 f2 f3 f4 f5
              go_wp2_with (fail)
              rw [← hwb]
              clear hwb
              go_cut [14] from 71 to 77 (fun v14 wx => v14 = .pointer (some ⟨wb.heap.size, 0, none⟩) ∧ Hid (InvR w wx n b5 b6 ga go ca co bsq boq (elimTo k i sp).1 (elimTo k i sp).2 ∧ RowAt wx kb 3 1 (fun _ => .int .i64 k) ∧ RowAt wx wr.heap.size 3 1 (fun _ => .int .i64 i) ∧ RowAt wx wb.heap.size 5 1 (fun _ => vb x) ∧ ∀ i, i < n → wb.heap.size ≠ bsq i))
              case first =>
                go_region_held3 (fun w' => (w'.cell? ⟨b5, 0, none⟩ = some (.slice (some ⟨ga, 0, none⟩) n ca) ∧ w'.cell? ⟨ga, i, none⟩ = some (.slice (some ⟨bsq i, 0, none⟩) n cq) ∧ w'.cell? ⟨bsq i, k, none⟩ = some (.int .u8 (x.val : Int)) ∧ w'.cell? ⟨kb, 0, none⟩ = some (.int .i64 k)) ∧ w'.cell? ⟨wr.heap.size, 0, none⟩ = some (.int .i64 i)) (first | exact keep5 (Below.refl _ _).drew f1 f2 f3 f4 f5 | exact keep5 ((Below.refl _ _).drew.alloc (Nat.le_refl _) _) f1 f2 f3 f4 f5 | exact keep5 (((Below.refl _ _).drew.alloc (Nat.le_refl _) _).setCell (Nat.le_refl _) _) f1 f2 f3 f4 f5) (fail)
                all_goals (go_wp2_with (fail); go_meet; exact ⟨rfl, HS⟩)
              case rest =>
                obtain ⟨rfl, HC5⟩ := hcut
                clear HS f1 f2 f3 f4 f5
                obtain ⟨hI6, hkb6, hib6, hyb6, hne6⟩ := HC5.out
                have g1 := hkb6.cell (show 0 < 1 by omega)
                have g2 := hib6.cell (show 0 < 1 by omega)
                have g3 := hyb6.cell (show 0 < 1 by omega)
                unfold vb at g3
                by_cases hik : i = k
                · have e1 : ((i : Int) != (k : Int)) = false := by rw [hik]; simp
                  have HR := Lib.hid (show InvI w wc n b5 b6 ga go ca co k (i + 1) kb sp from ⟨bsq, boq, by rw [elim_no (.inl hik)]; exact hI6, hkb6⟩)
                  have HIK := Lib.hid hik
                  clear hI6 hkb6 hib6 hyb6 hne6 HC5 hik
                  go_wp2_with (fail)
                  go_roundg (n - (i + 1))
                  case measure => omega
                  case rel => exact ⟨i + 1, by omega, by go_num, HR⟩
                · have e1 : ((i : Int) != (k : Int)) = true := by rw [bne_iff_ne]; omega
                  by_cases hx0 : x = 0
                  · have e2 : ((x.val : Int) != 0) = false := by rw [hx0]; rfl
                    have HR := Lib.hid (show InvI w wc n b5 b6 ga go ca co k (i + 1) kb sp from ⟨bsq, boq, by rw [elim_no (.inr (HX.out ▸ hx0))]; exact hI6, hkb6⟩)
                    have HIK := Lib.hid hik
                    have HX0 := Lib.hid hx0
                    clear hI6 hkb6 hib6 hyb6 hne6 HC5 hik hx0
                    go_wp2_with (fail)
                    go_roundg (n - (i + 1))
                    case measure => omega
                    case rel => exact ⟨i + 1, by omega, by go_num, HR⟩
                  · have e2 : ((x.val : Int) != 0) = true := by
                      rw [bne_iff_ne]; intro h; exact hx0 (Fin.ext (by show x.val = 0; omega))
                    have HIK := Lib.hid hik
                    have HX0 := Lib.hid hx0
                    clear hik hx0
                    go_wp2_with (fail)
                    refine (both_plus hI6 (by omega) hlt2 hlt HIK.out hib6 hkb6 hyb6 hne6).mono ?_
                    rintro e w7 ⟨rfl, hI7, hK7⟩
                    have HR := Lib.hid (show InvI w w7 n b5 b6 ga go ca co k (i + 1) kb sp from ⟨bsq, boq, by rw [elim_yes HIK.out (HX.out ▸ HX0.out)]; exact HX.out ▸ hI7, hK7 _ _ _ _ (by decide) (by decide) hkb6⟩)
                    clear hI6 hkb6 hib6 hyb6 hne6 HC5 hI7 hK7 g1 g2 g3
                    go_wp2_with (fail)
                    go_roundg (n - (i + 1))
                    case measure => omega
                    case rel => exact ⟨i + 1, by omega, by go_num, HR⟩
            · obtain rfl : i = n := by omega
              have HR : Hid (InvK w wr i b5 b6 ga go ca co (k + 1) F) := by
                obtain ⟨bsq, boq, hI, hkb⟩ := HI.out
                exact Lib.hid ⟨bsq, boq, _, _, hI, HGS.out⟩
              clear HI HGS
              go_wp2_with (fail)
              go_roundg (i - (k + 1))
              case measure => omega
              case rel => exact ⟨k + 1, by omega, by go_num, HR⟩
      · have hnone : gjTo n F n = none := gjTo_none (k := k + 1) (by simp only [gjTo, HG.out]; show gjStep n k (A', O') = none; unfold gjStep; rw [hp]; rfl) n (by omega)
        have HN := Lib.hid hnone
        have HBE := Lib.hid (below_then HJ.out.below HJ.out.below.size (box_below wr (.cells #[.int .i64 k] 3)))
        obtain ⟨q, rfl⟩ := hd
        clear hW hp hnone HKB HJ HG
        go_wp2_with (fail)
        go_ret2
        exact ⟨.slice none 0 0, .inr ⟨HN.out, rfl, ((below_drewN HBE.out q).alloc (Nat.le_trans HBE.out.size (Nat.le_refl _)) _)⟩⟩
    · obtain rfl : k = n := by omega
      obtain ⟨bsa', bso', A', O', hI, hgj⟩ := HI.out
      have g6 := hI.b6.cell (show 0 < 1 by omega)
      have HN := Lib.hid (⟨A', O', hgj, go, co, bso', rfl, hI.co, hI.mo⟩ : ∃ A' O', gjTo k F k = some (A', O') ∧ ∃ g c bs, (Value.slice (some ⟨go, 0, none⟩) k co) = .slice (some ⟨g, 0, none⟩) k c ∧ k ≤ c ∧ OwnMat w wr g k k bs O')
      clear HI hI hgj
      go_wp2_with (fail)
      go_ret2
      obtain ⟨A', O', h1, h2⟩ := HN.out
      exact ⟨_, .inl ⟨A', O', h1, rfl, h2⟩⟩
end Go.Proofs.Ytccfnhocjiehnaa
