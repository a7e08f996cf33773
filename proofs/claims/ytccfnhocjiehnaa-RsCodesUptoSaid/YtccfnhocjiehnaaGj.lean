/- Inverse's plain function: rows are turned to Unit's, the same being done to Unit. -/
import Derived.Test.YtccfnhocjiehnaaSwap
namespace Go.Proofs.Ytccfnhocjiehnaa
open Go.RowKit
set_option linter.unusedVariables false
set_option linter.unusedSimpArgs false

abbrev Mt := Nat → Nat → Gf.E
def nz (x : Gf.E) : Bool := decide (x ≠ 0)
def pivot (n k : Nat) (A : Mt) : Option Nat := (List.range (n - k)).find? fun q => nz (A (k + q) k)
def elim1 (k i : Nat) (s : Mt × Mt) : Mt × Mt := if i ≠ k ∧ s.1 i k ≠ 0 then (plusF s.1 i k (s.1 i k), plusF s.2 i k (s.1 i k)) else s
def elimTo (k : Nat) : Nat → Mt × Mt → Mt × Mt
  | 0, s => s
  | i + 1, s => elim1 k i (elimTo k i s)
def gjPre (k p : Nat) (s : Mt × Mt) : Mt × Mt :=
  (scaleF (swapF s.1 k (k + p)) k (divE 1 (swapF s.1 k (k + p) k k)), scaleF (swapF s.2 k (k + p)) k (divE 1 (swapF s.1 k (k + p) k k)))
def gjStep (n k : Nat) (s : Mt × Mt) : Option (Mt × Mt) := (pivot n k s.1).map fun p => elimTo k n (gjPre k p s)
def gjTo (n : Nat) (F : Mt) : Nat → Option (Mt × Mt)
  | 0 => some (F, unitE)
  | k + 1 => (gjTo n F k).bind (gjStep n k)
theorem gjTo_none {n : Nat} {F : Mt} {k : Nat} (h : gjTo n F k = none) : ∀ j, k ≤ j → gjTo n F j = none := by
  intro j hj
  induction j with
  | zero => obtain rfl : k = 0 := by omega
            exact h
  | succ j ih =>
    by_cases e : k = j + 1
    · subst e; exact h
    · simp only [gjTo, ih (by omega)]; rfl

theorem first_find {p : Nat → Bool} {n : Nat} {r : Int} (h : IsFirst p n r) : (∃ i : Nat, r = (i : Int) ∧ i < n ∧ (List.range n).find? p = some i) ∨ (r = -1 ∧ (List.range n).find? p = none) := by
  rcases h with ⟨i, hi, hp, hl, rfl⟩ | ⟨ha, rfl⟩
  · left
    refine ⟨i, rfl, hi, ?_⟩
    rw [List.find?_range_eq_some]
    exact ⟨hp, List.mem_range.2 hi, fun j hj => by rw [hl j hj]; rfl⟩
  · right
    refine ⟨rfl, ?_⟩
    rw [List.find?_eq_none]
    intro x hx
    rw [ha x (List.mem_range.1 hx)]
    decide

/-! ### The two matrices in memory -/
structure InvR (w wr : World) (n b5 b6 ga go ca co : Nat) (bsa bso : Nat → Nat) (A O : Mt) : Prop where
  ma : OwnMat w wr ga n n bsa A
  mo : OwnMat w wr go n n bso O
  sepg : ga ≠ go
  sepr : ∀ i j, i < n → j < n → bsa i ≠ bso j
  b5 : RowAt wr b5 55 1 (fun _ => .slice (some ⟨ga, 0, none⟩) n ca)
  b6 : RowAt wr b6 55 1 (fun _ => .slice (some ⟨go, 0, none⟩) n co)
  ca : n ≤ ca
  co : n ≤ co

theorem OwnMat.chg {S : Nat → Prop} {w wr w1 : World} {g n m : Nat} {bs : Nat → Nat} {F : Mt} (h : OwnMat w wr g n m bs F) (hc : Chg S wr w1) (hg : ¬ S g) (hs : ∀ i, i < n → ¬ S (bs i)) (hS : ∀ i, S i → w.heap.size ≤ i) : OwnMat w w1 g n m bs F := by
  obtain ⟨⟨cs, h1, h2⟩, h3, h4, h5, h6⟩ := h
  exact ⟨⟨cs, h1.chg hc hg, fun i hi => ⟨(h2 i hi).1, (h2 i hi).2.chg hc (hs i hi)⟩⟩, h3, h4, h5, hc.below h6 h6.size hS⟩
theorem OwnMat.outer {w wr : World} {g n m : Nat} {bs : Nat → Nat} {F : Mt} (h : OwnMat w wr g n m bs F) : ∃ f, RowAt wr g 22 n f := by
  obtain ⟨⟨cs, h1, h2⟩, _⟩ := h
  exact ⟨_, h1⟩
theorem OwnMat.rowAt {w wr : World} {g n m : Nat} {bs : Nat → Nat} {F : Mt} (h : OwnMat w wr g n m bs F) {i : Nat} (hi : i < n) : RowAt wr (bs i) 5 m (fun j => vb (F i j)) := by
  obtain ⟨⟨cs, h1, h2⟩, _⟩ := h
  exact (h2 i hi).2
theorem InvR.below {w wr : World} {n b5 b6 ga go ca co : Nat} {bsa bso : Nat → Nat} {A O : Mt} (h : InvR w wr n b5 b6 ga go ca co bsa bso A O) : Below w.heap.size w wr := h.ma.2.2.2.2
/-- Whatever writes to nothing of it. -/
theorem InvR.chg {S : Nat → Prop} {w wr w1 : World} {n b5 b6 ga go ca co : Nat} {bsa bso : Nat → Nat} {A O : Mt} (h : InvR w wr n b5 b6 ga go ca co bsa bso A O) (hc : Chg S wr w1) (hs : ∀ i, i < wr.heap.size → ¬ S i) (hS : ∀ i, S i → w.heap.size ≤ i) : InvR w w1 n b5 b6 ga go ca co bsa bso A O := by
  obtain ⟨_, fa⟩ := h.ma.outer
  obtain ⟨_, fo⟩ := h.mo.outer
  exact ⟨h.ma.chg hc (hs _ fa.lt) (fun i hi => hs _ (h.ma.rowAt hi).lt) hS, h.mo.chg hc (hs _ fo.lt) (fun i hi => hs _ (h.mo.rowAt hi).lt) hS, h.sepg, h.sepr, h.b5.chg hc (hs _ h.b5.lt), h.b6.chg hc (hs _ h.b6.lt), h.ca, h.co⟩
theorem InvR.over {w wr w1 : World} {n b5 b6 ga go ca co : Nat} {bsa bso : Nat → Nat} {A O : Mt} (h : InvR w wr n b5 b6 ga go ca co bsa bso A O) (hb : Below wr.heap.size wr w1) : InvR w w1 n b5 b6 ga go ca co bsa bso A O :=
  h.chg (Chg.of_below (S := fun _ => False) hb) (fun _ _ h => h) (fun _ h => h.elim)

/-- What a turn of both matrices leaves as it is: all blocks of other types. -/
def KeepT (w w1 : World) : Prop := ∀ (b : Nat) (t : TypeId) (n : Nat) (f : Nat → Value), t ≠ 22 → t ≠ 5 → RowAt w b t n f → RowAt w1 b t n f

set_option maxRecDepth 100000 in
theorem both_c (g : FuncId) (hent : ∀ args w, (callFunc g args).run Try.prog w = .ok (.enter g args) w) (cap : Array Value) (va vo : Value) (b5 b6 : Nat) (w : World) (Mid Post : World → Prop)
    (hc1 : w.cell? ⟨b5, 0, none⟩ = some va) (h1 : Calls Try.prog g (#[va] ++ cap) w fun e w' => e = .returned (.tuple #[]) ∧ Mid w')
    (hc2 : ∀ w', Mid w' → w'.cell? ⟨b6, 0, none⟩ = some vo) (h2 : ∀ w', Mid w' → Calls Try.prog g (#[vo] ++ cap) w' fun e w'' => e = .returned (.tuple #[]) ∧ Post w'') :
    Calls Try.prog 65 #[.func (.func g) #[] cap, .pointer (some ⟨b5, 0, none⟩), .pointer (some ⟨b6, 0, none⟩)] w fun e w' => e = .returned (.tuple #[]) ∧ Post w' := by
  have H1 := Lib.hid h1
  have H2 := Lib.hid h2
  have HC := Lib.hid hc2
  clear h1 h2 hc2
  go_enter Try.func65, Try.ntmps65
  go_wp2_with (fail)
  refine H1.out.mono ?_
  rintro e w1 ⟨rfl, hM⟩
  have k2 := HC.out w1 hM
  replace hM := Lib.hid hM
  go_wp2_with (fail)
  refine (H2.out w1 hM.out).mono ?_
  rintro e w2 ⟨rfl, hP⟩
  replace hP := Lib.hid hP
  go_wp2_with (fail)
  go_end0
  exact ⟨rfl, hP.out⟩

/-- One turn of both matrices, the first one's blocks S, the second one's T. -/
theorem InvR.turn1 {S : Nat → Prop} {w wr w1 : World} {n b5 b6 ga go ca co : Nat} {bsa bso bsa' : Nat → Nat} {A O A' : Mt} (h : InvR w wr n b5 b6 ga go ca co bsa bso A O) (hm : OwnMat w w1 ga n n bsa' A') (hc : Chg S wr w1)
    (hbs : ∀ i, i < n → ∃ j, j < n ∧ bsa' i = bsa j) (hS : ∀ i, S i → i = ga ∨ ∃ j, j < n ∧ i = bsa j) : InvR w w1 n b5 b6 ga go ca co bsa' bso A' O := by
  obtain ⟨_, fa⟩ := h.ma.outer
  obtain ⟨_, fo⟩ := h.mo.outer
  have hlo : ∀ i, S i → w.heap.size ≤ i := fun i hi => by
    rcases hS i hi with rfl | ⟨j, hj, rfl⟩
    · exact h.ma.2.1
    · exact h.ma.2.2.1 j hj
  have ne5 : ∀ (b : Nat) (m : Nat) (f : Nat → Value), RowAt wr b 55 m f → ¬ S b := fun b m f hr hs => by
    rcases hS b hs with rfl | ⟨j, hj, rfl⟩
    · exact hr.ne_ fa (by decide) rfl
    · exact hr.ne_ (h.ma.rowAt hj) (by decide) rfl
  refine ⟨hm, h.mo.chg hc (fun hs => ?_) (fun i hi hs => ?_) hlo, h.sepg, fun i j hi hj => ?_, h.b5.chg hc (ne5 _ _ _ h.b5), h.b6.chg hc (ne5 _ _ _ h.b6), h.ca, h.co⟩
  · rcases hS _ hs with e | ⟨j, hj, e⟩
    · exact h.sepg e.symm
    · exact fo.ne_ (h.ma.rowAt hj) (by decide) e
  · rcases hS _ hs with e | ⟨j, hj, e⟩
    · exact (h.mo.rowAt hi).ne_ fa (by decide) e
    · exact h.sepr j i hj hi e.symm
  · obtain ⟨q, hq, e⟩ := hbs i hi
    rw [e]
    exact h.sepr q j hq hj
theorem InvR.flip {w wr : World} {n b5 b6 ga go ca co : Nat} {bsa bso : Nat → Nat} {A O : Mt} (h : InvR w wr n b5 b6 ga go ca co bsa bso A O) : InvR w wr n b6 b5 go ga co ca bso bsa O A :=
  ⟨h.mo, h.ma, fun e => h.sepg e.symm, fun i j hi hj e => h.sepr j i hj hi e.symm, h.b6, h.b5, h.co, h.ca⟩
theorem keepT_of {S : Nat → Prop} {w wr w1 : World} {g n m : Nat} {bs : Nat → Nat} {F : Mt} (h : OwnMat w wr g n m bs F) (hc : Chg S wr w1) (hS : ∀ i, S i → i = g ∨ ∃ j, j < n ∧ i = bs j) : KeepT wr w1 := fun b t k f h1 h2 hr => by
  obtain ⟨_, fa⟩ := h.outer
  refine hr.chg hc (fun hs => ?_)
  rcases hS b hs with e | ⟨j, hj, e⟩
  · exact hr.ne_ fa h1 e
  · exact hr.ne_ (h.rowAt hj) h2 e
theorem KeepT.trans {w w1 w2 : World} (h : KeepT w w1) (k : KeepT w1 w2) : KeepT w w2 := fun b t n f h1 h2 hr => k b t n f h1 h2 (h b t n f h1 h2 hr)

theorem swapN_of {bs : Nat → Nat} {n k p : Nat} (hk : k < n) (hp : p < n) : ∀ i, i < n → ∃ j, j < n ∧ swapN bs k p i = bs j := by
  intro i hi
  unfold swapN
  split
  · exact ⟨k, hk, rfl⟩
  · split
    · exact ⟨p, hp, rfl⟩
    · exact ⟨i, hi, rfl⟩

theorem both_swap {w wr : World} {n b5 b6 ga go ca co kb pb k p : Nat} {bsa bso : Nat → Nat} {A O : Mt} (h : InvR w wr n b5 b6 ga go ca co bsa bso A O) (hn : n ≤ 255) (hk : k < n) (hp : k + p < n)
    (hkb : RowAt wr kb 3 1 (fun _ => .int .i64 k)) (hpb : RowAt wr pb 3 1 (fun _ => .int .i64 p)) :
    Calls Try.prog 65 #[.func (.func 68) #[] #[.pointer (some ⟨kb, 0, none⟩), .pointer (some ⟨pb, 0, none⟩)], .pointer (some ⟨b5, 0, none⟩), .pointer (some ⟨b6, 0, none⟩)] wr fun e w' => e = .returned (.tuple #[]) ∧
      InvR w w' n b5 b6 ga go ca co (swapN bsa k (k + p)) (swapN bso k (k + p)) (swapF A k (k + p)) (swapF O k (k + p)) ∧ KeepT wr w' := by
  obtain ⟨_, fa⟩ := h.ma.outer
  obtain ⟨_, fo⟩ := h.mo.outer
  refine both_c 68 (fun _ _ => rfl) _ _ _ b5 b6 wr (fun w1 => InvR w w1 n b5 b6 ga go ca co (swapN bsa k (k + p)) bso (swapF A k (k + p)) O ∧ KeepT wr w1) _ (h.b5.cell (by omega)) ?_ (fun w1 h1 => h1.1.b6.cell (by omega)) (fun w1 h1 => ?_)
  · refine (swap4_c w ga n ca k p kb pb n bsa A wr h.ma hk hp hn (hkb.cell (by omega)) (hpb.cell (by omega)) (hkb.ne_ fa (by decide)) (hpb.ne_ fa (by decide))).mono ?_
    rintro e w1 ⟨rfl, hm, hc⟩
    exact ⟨rfl, h.turn1 hm hc (swapN_of hk hp) (fun i hi => .inl hi), keepT_of h.ma hc (fun i hi => .inl hi)⟩
  · have hkb1 := h1.2 _ _ _ _ (by decide) (by decide) hkb
    have hpb1 := h1.2 _ _ _ _ (by decide) (by decide) hpb
    obtain ⟨_, fo1⟩ := h1.1.mo.outer
    refine (swap4_c w go n co k p kb pb n bso O w1 h1.1.mo hk hp hn (hkb1.cell (by omega)) (hpb1.cell (by omega)) (hkb1.ne_ fo1 (by decide)) (hpb1.ne_ fo1 (by decide))).mono ?_
    rintro e w2 ⟨rfl, hm, hc⟩
    exact ⟨rfl, (h1.1.flip.turn1 hm hc (swapN_of hk hp) (fun i hi => .inl hi)).flip, h1.2.trans (keepT_of h1.1.mo hc (fun i hi => .inl hi))⟩

theorem both_scale {w wr : World} {n b5 b6 ga go ca co kb xb k : Nat} {bsa bso : Nat → Nat} {A O : Mt} {x : Gf.E} (h : InvR w wr n b5 b6 ga go ca co bsa bso A O) (hn : n ≤ 255) (hk : k < n)
    (hkb : RowAt wr kb 3 1 (fun _ => .int .i64 k)) (hxb : RowAt wr xb 5 1 (fun _ => vb x)) (hx : ∀ i, i < n → xb ≠ bsa i) :
    Calls Try.prog 65 #[.func (.func 69) #[] #[.pointer (some ⟨kb, 0, none⟩), .pointer (some ⟨xb, 0, none⟩)], .pointer (some ⟨b5, 0, none⟩), .pointer (some ⟨b6, 0, none⟩)] wr fun e w' => e = .returned (.tuple #[]) ∧
      InvR w w' n b5 b6 ga go ca co bsa bso (scaleF A k x) (scaleF O k x) ∧ KeepT wr w' := by
  refine both_c 69 (fun _ _ => rfl) _ _ _ b5 b6 wr (fun w1 => InvR w w1 n b5 b6 ga go ca co bsa bso (scaleF A k x) O ∧ KeepT wr w1 ∧ RowAt w1 xb 5 1 (fun _ => vb x)) _ (h.b5.cell (by omega)) ?_ (fun w1 h1 => h1.1.b6.cell (by omega)) (fun w1 h1 => ?_)
  · refine (scale5_c w ga n ca k kb xb n bsa A x wr h.ma hk hn hn (hkb.cell (by omega)) (hxb.cell (by omega))).mono ?_
    rintro e w1 ⟨rfl, hm, hc⟩
    exact ⟨rfl, h.turn1 hm hc (fun i hi => ⟨i, hi, rfl⟩) (fun i hi => .inr ⟨k, hk, hi⟩), keepT_of h.ma hc (fun i hi => .inr ⟨k, hk, hi⟩), hxb.chg hc (hx k hk)⟩
  · have hkb1 := h1.2.1 _ _ _ _ (by decide) (by decide) hkb
    refine (scale5_c w go n co k kb xb n bso O x w1 h1.1.mo hk hn hn (hkb1.cell (by omega)) (h1.2.2.cell (by omega))).mono ?_
    rintro e w2 ⟨rfl, hm, hc⟩
    exact ⟨rfl, (h1.1.flip.turn1 hm hc (fun i hi => ⟨i, hi, rfl⟩) (fun i hi => .inr ⟨k, hk, hi⟩)).flip, h1.2.1.trans (keepT_of h1.1.mo hc (fun i hi => .inr ⟨k, hk, hi⟩))⟩

theorem both_plus {w wr : World} {n b5 b6 ga go ca co ib kb xb i k : Nat} {bsa bso : Nat → Nat} {A O : Mt} {x : Gf.E} (h : InvR w wr n b5 b6 ga go ca co bsa bso A O) (hn : n ≤ 255) (hi : i < n) (hk : k < n) (hne : i ≠ k)
    (hib : RowAt wr ib 3 1 (fun _ => .int .i64 i)) (hkb : RowAt wr kb 3 1 (fun _ => .int .i64 k)) (hxb : RowAt wr xb 5 1 (fun _ => vb x)) (hx : ∀ i, i < n → xb ≠ bsa i) :
    Calls Try.prog 65 #[.func (.func 71) #[] #[.pointer (some ⟨ib, 0, none⟩), .pointer (some ⟨kb, 0, none⟩), .pointer (some ⟨xb, 0, none⟩)], .pointer (some ⟨b5, 0, none⟩), .pointer (some ⟨b6, 0, none⟩)] wr fun e w' => e = .returned (.tuple #[]) ∧
      InvR w w' n b5 b6 ga go ca co bsa bso (plusF A i k x) (plusF O i k x) ∧ KeepT wr w' := by
  refine both_c 71 (fun _ _ => rfl) _ _ _ b5 b6 wr (fun w1 => InvR w w1 n b5 b6 ga go ca co bsa bso (plusF A i k x) O ∧ KeepT wr w1 ∧ RowAt w1 xb 5 1 (fun _ => vb x)) _ (h.b5.cell (by omega)) ?_ (fun w1 h1 => h1.1.b6.cell (by omega)) (fun w1 h1 => ?_)
  · refine (plus6_c w ga n ca i k ib kb xb n bsa A x wr h.ma hi hk hne hn hn (hib.cell (by omega)) (hkb.cell (by omega)) (hxb.cell (by omega))).mono ?_
    rintro e w1 ⟨rfl, hm, hc⟩
    exact ⟨rfl, h.turn1 hm hc (fun q hq => ⟨q, hq, rfl⟩) (fun q hq => .inr ⟨i, hi, hq⟩), keepT_of h.ma hc (fun q hq => .inr ⟨i, hi, hq⟩), hxb.chg hc (hx i hi)⟩
  · have hkb1 := h1.2.1 _ _ _ _ (by decide) (by decide) hkb
    have hib1 := h1.2.1 _ _ _ _ (by decide) (by decide) hib
    refine (plus6_c w go n co i k ib kb xb n bso O x w1 h1.1.mo hi hk hne hn hn (hib1.cell (by omega)) (hkb1.cell (by omega)) (h1.2.2.cell (by omega))).mono ?_
    rintro e w2 ⟨rfl, hm, hc⟩
    exact ⟨rfl, (h1.1.flip.turn1 hm hc (fun q hq => ⟨q, hq, rfl⟩) (fun q hq => .inr ⟨i, hi, hq⟩)).flip, h1.2.1.trans (keepT_of h1.1.mo hc (fun q hq => .inr ⟨i, hi, hq⟩))⟩

/-! ### Inverse's other closures -/
set_option maxRecDepth 100000 in
theorem inv1_c (i j : Nat) (A : Option Addr) (n c : Nat) (L : Nat → Nat) (F : Mt) (g0 : Nat) (w : World) (hi : i < n) (hj : j < L i) (hn : n ≤ 255) (hL : L i ≤ 255) (ha : RdM w A n L F) (h1 : w.cell? ⟨g0, 0, none⟩ = some (.slice A n c)) :
    Calls Try.prog 64 (#[.int .i64 i, .int .i64 j] ++ #[.pointer (some ⟨g0, 0, none⟩)]) w fun e w' => e = .returned (vb (F i j)) ∧ Drew w w' := by
  obtain ⟨Ar, Cr, hr, hrow⟩ := ha
  obtain ⟨ad, rfl, hc2⟩ := hr.at_ hi
  obtain ⟨ai, hai, hc3⟩ := (hrow i hi).2.at_ hj
  rw [hai] at hc2
  unfold vb at hc3
  have a1 : (i : Int) < (n : Int) := by omega
  have a3 : (j : Int) < (L i : Int) := by omega
  have b1 : (0 : Int) ≤ (i : Int) := by omega
  have b3 : (0 : Int) ≤ (j : Int) := by omega
  clear hr hrow hai
  go_enter Try.func64, Try.ntmps64
  go_wp2
  go_ret
  exact ⟨rfl, by repeat (first | exact Drew.refl _ | apply Drew.step)⟩

set_option maxRecDepth 100000 in
theorem inv3_c (b m c k kb : Nat) (f : Nat → Gf.E) (w : World) (hk : k < m) (hm : m ≤ 255) (hr : RowAt w b 5 m (fun j => vb (f j))) (h1 : w.cell? ⟨kb, 0, none⟩ = some (.int .i64 k)) :
    Calls Try.prog 67 (#[.slice (some ⟨b, 0, none⟩) m c] ++ #[.pointer (some ⟨kb, 0, none⟩)]) w fun e w' => e = .returned (.bool (nz (f k))) ∧ w = w' := by
  have hc := hr.cell hk
  unfold vb at hc
  have a1 : (k : Int) < (m : Int) := by omega
  have b1 : (0 : Int) ≤ (k : Int) := by omega
  clear hr
  go_enter Try.func67, Try.ntmps67
  go_wp2
  go_ret
  refine ⟨ret_bool ?_, rfl⟩
  unfold nz
  rw [Bool.eq_iff_iff, bne_iff_ne, decide_eq_true_iff]
  constructor
  · intro h e; rw [e] at h; exact h rfl
  · intro h e; exact h (Fin.ext (by show (f k).val = 0; omega))
theorem RdF.drop {w : World} {A : Option Addr} {n k cap : Nat} {f : Nat → Value} (h : RdF w A n f) (hk : k ≤ n) (hc : n ≤ cap) : RdF w (if cap = k then A else A.map (·.add k)) (n - k) (fun i => f (k + i)) := by
  intro hn
  obtain ⟨ad, rfl, hcell⟩ := h (by omega)
  rw [if_neg (by omega)]
  refine ⟨ad.add k, rfl, fun j hj => ?_⟩
  have e : (ad.add k).add j = ad.add (k + j) := by
    unfold Addr.add
    by_cases hi : k = 0 <;> by_cases hj : j = 0 <;> simp [hi, hj, Nat.add_assoc]
  rw [e]
  exact hcell _ (by omega)
end Go.Proofs.Ytccfnhocjiehnaa
