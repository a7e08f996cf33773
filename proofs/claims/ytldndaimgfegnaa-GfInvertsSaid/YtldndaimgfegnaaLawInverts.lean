/- GfInverts holds: any k rows of Unit and Cauchy have an inverse, on either side. No condition. -/
import Derived.Test.YtldndaimgfegnaaOpen
import Derived.Test.YtldndaimgfegnaaKnown
import Derived.Test.YtldndaimgfegnaaCau
import Derived.Test.YtldndaimgfegnaaInvC
import Derived.Great.BuildSlice
namespace Go.Proofs.Ytldndaimgfegnaa.gfInverts
open Go.ChangeShapes Go.WideShapes Go.ChangeAt Go.RowKit
open Go.ChangeMaps (open_string shut_string)
set_option linter.unusedVariables false
set_option linter.unusedSimpArgs false

theorem MatAt.news {w : World} {g n m : Nat} {bs : Nat → Nat} {F : Mt} (h : MatAt w g n m bs F) : ∃ cs : Nat → Nat, (∀ j u, ((List.range n).map fun i => Value.slice (some ⟨bs i, 0, none⟩) m (cs i))[j]? = some u → w.cell? ((⟨g, 0, none⟩ : Addr).add j) = some u) ∧ (∀ i, i < n → m ≤ cs i ∧ RowAt w (bs i) 5 m (fun j => vb (F i j))) := by
  obtain ⟨cs, h1, h2⟩ := h
  refine ⟨cs, fun j u hu => ?_, h2⟩
  rw [List.getElem?_map] at hu
  rcases hj : (List.range n)[j]? with _ | i
  · rw [hj] at hu; cases hu
  · rw [hj] at hu
    have : j < n := by
      have := List.getElem?_eq_some_iff.1 hj
      obtain ⟨hl, _⟩ := this
      simpa using hl
    have e : i = j := by
      rw [List.getElem?_range this] at hj
      injection hj with hj; exact hj.symm
    subst e
    injection hu with hu
    rw [add_plain, ← hu]
    exact h1.cell this

def newsOf (n m : Nat) (bs cs : Nat → Nat) : List Value := (List.range n).map fun i => .slice (some ⟨bs i, 0, none⟩) m (cs i)
theorem newsOf_len (n m : Nat) (bs cs : Nat → Nat) : (newsOf n m bs cs).length = n := by simp [newsOf]
theorem newsOf_one (n m : Nat) (bs cs : Nat → Nat) : ∀ u ∈ newsOf n m bs cs, u.oneCell' = true := fun u hu => by
  obtain ⟨i, _, rfl⟩ := List.mem_map.1 hu
  rfl
theorem newsOf_at {n m : Nat} {bs cs : Nat → Nat} {i : Nat} (hi : i < n) : (newsOf n m bs cs)[i]? = some (.slice (some ⟨bs i, 0, none⟩) m (cs i)) := by
  unfold newsOf
  rw [List.getElem?_map, List.getElem?_range hi]; rfl
theorem all_mat {wu wc w2 : World} {k m : Nat} {v : Value} {bsu csu bsc csc : Nat → Nat} (hk : 0 < k + m) (hown : w2.ownsRow wc.heap.size 56 1 v (k + m) (newsOf k k bsu csu ++ newsOf m k bsc csc)) (hb : Below wc.heap.size wc w2) (hbc : Below wu.heap.size wu wc)
    (hu : ∀ i, i < k → k ≤ csu i ∧ RowAt wu (bsu i) 5 k (fun j => vb (unitE i j))) (hc : ∀ i, i < m → k ≤ csc i ∧ RowAt wc (bsc i) 5 k (fun j => vb (cauE k i j))) :
    ∃ ga ca, v = .slice (some ⟨ga, 0, none⟩) (k + m) ca ∧ MatAt w2 ga (k + m) k (fun i => if i < k then bsu i else bsc (i - k)) (unitCau k) := by
  obtain ⟨ga, ca, rfl, _, hr, _⟩ := RowAt.of_own (f := fun i => .slice (some ⟨if i < k then bsu i else bsc (i - k), 0, none⟩) k (if i < k then csu i else csc (i - k))) hk hown (fun i hi => by
    by_cases h : i < k
    · rw [List.getElem?_append_left (by rw [newsOf_len]; exact h), newsOf_at h]; simp only [if_pos h]
    · rw [List.getElem?_append_right (by rw [newsOf_len]; omega), newsOf_len, newsOf_at (by omega)]; simp only [if_neg h])
  refine ⟨ga, ca, rfl, fun i => if i < k then csu i else csc (i - k), hr, fun i hi => ?_⟩
  by_cases h : i < k
  · simp only [if_pos h, unitCau]
    exact ⟨(hu i h).1, ((hu i h).2.below hbc).below hb⟩
  · simp only [if_neg h, unitCau]
    exact ⟨(hc (i - k) (by omega)).1, (hc (i - k) (by omega)).2.below hb⟩
theorem own_empty (w : World) (t : TypeId) : (w.alloc (.cells #[] t)).ownsRow w.heap.size t 1 (.slice (some ⟨w.heap.size, 0, none⟩) 0 0) 0 [] :=
  ⟨rfl, .inr ⟨w.heap.size, 0, #[], rfl, Nat.le_refl _, heap_alloc_new w _, Nat.le_refl _, by unfold maxLen; omega, rfl, rfl⟩⟩

theorem info3 : (Try.prog.info? 3).map (fun i => (i.zero, i.size, i.bytes)) = some (some (.int .i64 0), 1, 8) := by kernel_rfl
theorem info4 : (Try.prog.info? 4).map (fun i => (i.zero, i.size, i.bytes)) = some (some (.bool false), 1, 1) := by kernel_rfl
theorem own_ge {w : World} {base : Nat} {e : TypeId} {size n : Nat} {v : Value} {xs : List Value} (h : w.ownsRow base e size v n xs) : ∀ k, v.ownBlock = some k → base ≤ k := fun k hk => by
  rcases h.2 with ⟨rfl, _⟩ | ⟨g, cap, cur, rfl, h2, _⟩
  · cases hk
  · injection hk with hk; subst hk; exact h2
theorem MatAt.chg {S : Nat → Prop} {w w1 : World} {g n m : Nat} {bs : Nat → Nat} {F : Mt} (h : MatAt w g n m bs F) (hc : Chg S w w1) (hg : ¬ S g) (hs : ∀ i, i < n → ¬ S (bs i)) : MatAt w1 g n m bs F := by
  obtain ⟨cs, h1, h2⟩ := h
  exact ⟨cs, h1.chg hc hg, fun i hi => ⟨(h2 i hi).1, (h2 i hi).2.chg hc (hs i hi)⟩⟩
theorem own_slice {w : World} {base : Nat} {e : TypeId} {size n : Nat} {v : Value} {xs : List Value} (h : w.ownsRow base e size v n xs) : ∃ A c, v = .slice A n c := by
  rcases h.2 with ⟨rfl, rfl⟩ | ⟨g, cap, cur, rfl, _⟩
  · exact ⟨_, _, rfl⟩
  · exact ⟨_, _, rfl⟩
def dist (u K n : Nat) : Nat := if n ≤ u then u - n else u + K - n
def nextN (K n : Nat) : Nat := if n + 1 = K then 0 else n + 1
theorem next_mod {K n : Nat} (h : n < K) : (n + 1) % K = nextN K n := by
  unfold nextN
  split
  · next e => rw [e, Nat.mod_self]
  · exact Nat.mod_eq_of_lt (by omega)
theorem dist_next {u K n : Nat} (hu : u < K) (hn : n < K) (hne : n ≠ u) : dist u K (nextN K n) < dist u K n := by
  unfold dist nextN
  repeat' split
  all_goals omega
theorem next_lt {K n : Nat} (h : n < K) : nextN K n < K := by unfold nextN; split <;> omega
theorem one_news (w : World) (x : Value) (t : TypeId) (B : Nat) (hB : B = w.heap.size) (hx : x.oneCell' = true) : ∀ j u, [x][j]? = some u → (w.alloc (.cells #[x] t)).cell? ((⟨B, 0, none⟩ : Addr).add j) = some u := by
  subst hB
  intro j u hj
  match j, hj with
  | 0, hj =>
    simp at hj; subst hj
    rw [add_plain]
    exact (box1 w x t hx).1
theorem one_one (x : Value) (hx : x.oneCell' = true) : ∀ u ∈ [x], u.oneCell' = true := fun u hu => by
  have : u = x := by simpa using hu
  rw [this]; exact hx
def nv (r : Nat) : Value := .int .i64 (r : Int)
/-- While rows are picked: R so far. -/
structure PickR (w0 wr : World) (gb K : Nat) (v : Value) (R : List Nat) : Prop where
  used : RowAt wr gb 4 K (fun i => .bool (decide (i ∈ R)))
  chg : Chg (· = gb) w0 wr
  lt0 : gb < w0.heap.size
  own : wr.ownsRow w0.heap.size 3 1 v R.length (R.map nv)
  nodup : R.Nodup
  lt : ∀ r ∈ R, r < K
theorem grown_set (w : World) (a : Addr) (v : Value) : w.grownBy (w.setCell a v) (some a.block) :=
  ⟨rfl, rfl, rfl, by simp, fun k _ hne => Below.heap_setCell w a v k (fun e => hne (by rw [e]))⟩
theorem PickR.ownS {w0 wr : World} {gb K n : Nat} {v : Value} {R : List Nat} (h : PickR w0 wr gb K v R) : (wr.setCell ⟨gb, n, none⟩ (.bool true)).ownsRow w0.heap.size 3 1 v R.length (R.map nv) :=
  h.own.kept (grown_set _ _ _) (.inr (fun e => by have := own_ge h.own gb e; have := h.lt0; omega))
theorem PickR.step {w0 wr w3 : World} {gb K n : Nat} {v v' : Value} {R : List Nat} {o : Obj} (h : PickR w0 wr gb K v R) (hn : n < K) (hf : n ∉ R)
    (hown : w3.ownsRow w0.heap.size 3 1 v' (R.length + 1) ((R.map nv) ++ [.int .i64 (n : Int)])) (hg : ((wr.setCell ⟨gb, n, none⟩ (.bool true)).alloc o).grownBy w3 v.ownBlock) : PickR w0 w3 gb K v' (R ++ [n]) := by
  have hne : ∀ i, i < w0.heap.size → some i ≠ v.ownBlock := fun i hi e => by have := own_ge h.own i e.symm; omega
  have hs := h.chg.size
  have hlt := h.lt0
  have hset := (h.used.set n (.bool true)).alloc o
  refine ⟨(hset.of_block (hg.block gb hset.lt (hne gb hlt))).congr (fun i hi => ?_), ?_, hlt, ?_, ?_, ?_⟩
  · by_cases e : i = n
    · subst e; rw [if_pos rfl, decide_eq_true (by simp)]
    · rw [if_neg e]; congr 1; simp [e]
  · refine ⟨hg.os.trans h.chg.os, hg.tape.trans h.chg.tape, hg.output.trans h.chg.output, by have := hg.size; simp at this; omega, fun i hi hS => ?_⟩
    rw [hg.block i (by simp; omega) (hne i hi), Below.heap_alloc _ o i (by simp; omega), Below.heap_setCell wr _ _ i hS]
    exact h.chg.block i hi hS
  · rw [List.length_append, List.map_append]; exact hown
  · rw [List.nodup_append]
    refine ⟨h.nodup, by simp, fun a ha b hb => ?_⟩
    have : b = n := by simpa using hb
    subst this
    exact fun e => hf (e ▸ ha)
  · intro r hr
    rcases List.mem_append.1 hr with hr | hr
    · exact h.lt r hr
    · have : r = n := by simpa using hr
      omega

/-! ### The calls behind the loop -/
def fN (R : List Nat) (i : Nat) : Int := ((R[i]?.getD 0 : Nat) : Int)
theorem own_rd {w : World} {base c : Nat} {A : Option Addr} {R : List Nat} (h : w.ownsRow base 3 1 (.slice A R.length c) R.length (R.map nv)) (h0 : 0 < R.length) : RdF w A R.length (fun j => .int .i64 (fN R j)) := by
  obtain ⟨b, cap, hv, _, hr, _⟩ := RowAt.of_own (f := fun j => .int .i64 (fN R j)) h0 h (fun i hi => by
    rw [List.getElem?_map, List.getElem?_eq_getElem hi]
    unfold fN nv
    rw [List.getElem?_eq_getElem hi]; rfl)
  injection hv with hA
  subst hA
  exact hr.rd
theorem picks_inverse {k m : Nat} (R : List Nat) (hn : R.Nodup) (hl : R.length = k) (hlt : ∀ r ∈ R, r < k + m) (hkm : k + m ≤ 256) :
    ∃ s, gjTo k (rowsF (unitCau k) (fN R)) k = some s ∧ (∀ i j, i < k → j < k → timesF (rowsF (unitCau k) (fN R)) s.2 k i j = unitE i j) ∧ (∀ i j, i < k → j < k → timesF s.2 (rowsF (unitCau k) (fN R)) k i j = unitE i j) :=
  rows_inverse (fN R) R (fun i hi => by
    rw [List.getElem?_eq_getElem (by omega)]
    unfold fN
    rw [List.getElem?_eq_getElem (by omega)]
    simp) hn hl hlt hkm
theorem MatAt.ne4 {w : World} {g n m gb K : Nat} {bs : Nat → Nat} {F : Mt} {f : Nat → Value} (h : MatAt w g n m bs F) (hb : RowAt w gb 4 K f) : gb ≠ g := by
  obtain ⟨cs, h1, _⟩ := h
  exact hb.ne_ h1 (by decide)
theorem MatAt.ne4' {w : World} {g n m gb K i : Nat} {bs : Nat → Nat} {F : Mt} {f : Nat → Value} (h : MatAt w g n m bs F) (hb : RowAt w gb 4 K f) (hi : i < n) : bs i ≠ gb := by
  obtain ⟨cs, _, h2⟩ := h
  exact (h2 i hi).2.ne_ hb (by decide)
theorem rightB_k {n k : Nat} (h1 : 1 ≤ n) (h2 : n ≤ 255) (h3 : 1 ≤ k) (h4 : k ≤ 255) : rightB n (fun _ => k) = true := decide_eq_true ⟨h1, h2, h3, h4, fun _ _ => rfl⟩
theorem rows_k (k m ga ca : Nat) (A : Option Addr) (c : Nat) (R : List Nat) (w : World) (k1 : 1 ≤ k) (k2 : k ≤ 12) (m2 : m ≤ 12) (hl : R.length = k) (ha : RdM w (some ⟨ga, 0, none⟩) (k + m) (fun _ => k) (unitCau k)) (hr : RdF w A R.length (fun j => .int .i64 (fN R j))) (hlt : ∀ r ∈ R, r < k + m) :
    Calls Try.prog 29 #[.slice (some ⟨ga, 0, none⟩) (k + m) ca, .slice A R.length c] w fun e w' => ∃ gp cp, e = .returned (.tuple #[.slice (some ⟨gp, 0, none⟩) k cp, .int .i64 0]) ∧ RdM w' (some ⟨gp, 0, none⟩) k (fun _ => k) (rowsF (unitCau k) (fN R)) ∧ Below w.heap.size w w' := by
  refine (rows_yes (some ⟨ga, 0, none⟩) A (k + m) ca R.length c (fun _ => k) (unitCau k) (fN R) w ha hr (by omega) (fun _ _ => by omega) (rightB_k (by omega) (by omega) (by omega) (by omega)) (by omega) (by omega) ?_).mono ?_
  · unfold anyB
    rw [decide_eq_false_iff_not]
    rintro ⟨i, hi, hb⟩
    unfold rowBad at hb
    have := of_decide_eq_true hb
    have h2 : fN R i < ((k + m : Nat) : Int) ∧ 0 ≤ fN R i := by
      unfold fN
      rw [List.getElem?_eq_getElem hi]
      have := hlt _ (List.getElem_mem hi)
      constructor
      · show ((R[i] : Nat) : Int) < _
        omega
      · omega
    omega
  · rintro e w' ⟨v, rfl, gp, cp, bs, rfl, _, hM, _, _, _, hb⟩
    subst hl
    exact ⟨gp, cp, rfl, hM.rd, hb⟩
theorem inv_k (g c k : Nat) (F : Mt) (s : Mt × Mt) (w : World) (k1 : 1 ≤ k) (k2 : k ≤ 255) (ha : RdM w (some ⟨g, 0, none⟩) k (fun _ => k) F) (hs : gjTo k F k = some s) :
    Calls Try.prog 30 #[.slice (some ⟨g, 0, none⟩) k c] w fun e w' => ∃ gp cp, e = .returned (.tuple #[.slice (some ⟨gp, 0, none⟩) k cp, .int .i64 0]) ∧ RdM w' (some ⟨gp, 0, none⟩) k (fun _ => k) s.2 ∧ Below w.heap.size w w' := by
  refine (inverse_yes _ k c (fun _ => k) F w ha (by omega) (fun _ _ => by omega) (rightB_k k1 k2 k1 k2) rfl).mono ?_
  rintro e w' ⟨v, ⟨A', O', h1, rfl, gp, cp, bs, rfl, _, hM, _, _, _, hb⟩ | ⟨h1, _⟩⟩
  · rw [hs] at h1
    injection h1 with h1
    subst h1
    exact ⟨gp, cp, rfl, hM.rd, hb⟩
  · rw [hs] at h1; cases h1
theorem times_k (g g2 c c2 k : Nat) (F G : Mt) (w : World) (k1 : 1 ≤ k) (k2 : k ≤ 255) (ha : RdM w (some ⟨g, 0, none⟩) k (fun _ => k) F) (hb : RdM w (some ⟨g2, 0, none⟩) k (fun _ => k) G) :
    Calls Try.prog 31 #[.slice (some ⟨g, 0, none⟩) k c, .slice (some ⟨g2, 0, none⟩) k c2] w fun e w' => ∃ gp cp, e = .returned (.tuple #[.slice (some ⟨gp, 0, none⟩) k cp, .int .i64 0]) ∧ RdM w' (some ⟨gp, 0, none⟩) k (fun _ => k) (timesF F G k) ∧ Below w.heap.size w w' := by
  refine (times_yes _ _ k c k c2 (fun _ => k) (fun _ => k) F G w ha hb (by omega) (fun _ _ => by omega) (by omega) (fun _ _ => by omega) (rightB_k k1 k2 k1 k2) (rightB_k k1 k2 k1 k2) rfl).mono ?_
  rintro e w' ⟨v, rfl, gp, cp, bs, rfl, _, hM, _, _, _, hb⟩
  exact ⟨gp, cp, rfl, hM.rd, hb⟩
theorem same_k (g g2 c c2 k : Nat) (F G : Mt) (w : World) (k2 : k ≤ 255) (ha : RdM w (some ⟨g, 0, none⟩) k (fun _ => k) F) (hb : RdM w (some ⟨g2, 0, none⟩) k (fun _ => k) G) (h : ∀ i j, i < k → j < k → F i j = G i j) :
    Calls Try.prog 24 #[.slice (some ⟨g, 0, none⟩) k c, .slice (some ⟨g2, 0, none⟩) k c2] w fun e w' => e = .returned (.bool true) ∧ Drew w w' := by
  have h2 := same_c _ _ k k c c2 (fun _ => k) (fun _ => k) F G w ha hb (by omega) (by omega)
  rw [sameB_true ⟨rfl, fun i hi => ⟨rfl, fun j hj => h i j hi hj⟩⟩] at h2
  exact h2

set_option maxRecDepth 100000 in
set_option maxHeartbeats 8000000 in
theorem walk_in (k m : Nat) (P : Option Addr) (pn pc : Nat) (f : Nat → Int) (w : World) (hp : RdF w P pn (fun j => .int .i64 (f j))) (hpn : pn ≤ 4611686018427387904) (k1 : 1 ≤ k) (k2 : k ≤ 12) (m1 : 1 ≤ m) (m2 : m ≤ 12) (hf : ∀ j, j < pn → -9223372036854775808 ≤ f j ∧ f j ≤ 9223372036854775807) :
    Calls Try.prog 7 #[.int .i64 k, .int .i64 m, .slice P pn pc] w fun e w' => e = .returned (.bool true) ∧ Below w.heap.size w w' := by
  have HP := Lib.hid hp
  have HF := Lib.hid hf
  clear hp hf
  obtain ⟨i56, hi, hz0, hz1, hz2⟩ := info_parts info56
  have k1' : (1 : Int) ≤ (k : Int) := by omega
  have m1' : (1 : Int) ≤ (m : Int) := by omega
  have k2' : (k : Int) ≤ 12 := by omega
  have m2' : (m : Int) ≤ 12 := by omega
  go_enter Try.func7, Try.ntmps7
  go_wp2_with (go_at_call 11; refine (known_c _).mono ?_; rintro e wk ⟨rfl, hb⟩; replace hb := Lib.hid hb)
  refine (unit_yes k _ (by omega) (by omega)).mono ?_
  rintro e wu ⟨v, rfl, gu, cu, bsu, rfl, hcu, hMu⟩
  replace hMu := Lib.hid (show OwnMat wk wu gu k k bsu unitE from hMu)
  go_wp2_with (fail)
  refine (cauchy_yes m k _ (by omega) (by omega) (by omega)).mono ?_
  rintro e wc ⟨v, rfl, gc, cc, bsc, rfl, hcc, hMc⟩
  replace hMc := Lib.hid (show OwnMat wu wc gc m k bsc (cauE k) from hMc)
  obtain ⟨csu, hNu, hRu⟩ := MatAt.news hMu.out.1
  obtain ⟨csc, hNc, hRc⟩ := MatAt.news hMc.out.1
  have HNU := Lib.hid (show ∀ j u, (newsOf k k bsu csu)[j]? = some u → wu.cell? ((⟨gu, 0, none⟩ : Addr).add j) = some u from hNu)
  have HNC := Lib.hid (show ∀ j u, (newsOf m k bsc csc)[j]? = some u → wc.cell? ((⟨gc, 0, none⟩ : Addr).add j) = some u from hNc)
  have HRU := Lib.hid hRu
  have HRC := Lib.hid hRc
  have hbc := Lib.hid hMc.out.2.2.2.2
  have hlc : Hid (gc < wc.heap.size) := Lib.hid (by obtain ⟨f, h⟩ := hMc.out.outer; exact h.lt)
  clear hNu hNc hRu hRc
  obtain ⟨K, hK⟩ : ∃ K, K = k + m := ⟨_, rfl⟩
  have hKi : (k : Int) + (m : Int) = (K : Int) := by omega
  have HKN := Lib.hid hK
  have hmk := run_make_row' (P := Try.prog) 51 4 (.bool false) 1 Try.underlying51 info4 rfl .i64 .i64 K (by omega) (by omega)
  clear hK
  go_wp2_with (first | (at_builtin; refine wpList_append_own _ rfl (.tmp 68) (.tmp 69) 40 rfl wc.heap.size 56 i56 (.slice none 0 0) 1 24 Try.underlying40 hi hz0 hz1 hz2 rfl (by decide) _ 0 [] rfl (own_empty wc _) ⟨gu, 0, none⟩ k cu (newsOf k k bsu csu) rfl (by rw [newsOf_len, Nat.mul_one]) (fun j u hj => cell_below (box_below wc _) (cell_below hbc.out (HNU.out j u hj))) (newsOf_one _ _ _ _) (by unfold maxLen; omega) (by omega) (by simp) ?_; intro v1 w1 hown1 hgrow1 hz; clear hz; simp only [Nat.zero_add, List.nil_append] at hown1; replace hown1 := Lib.hid hown1; replace hgrow1 := Lib.hid hgrow1) | (at_builtin; refine wpList_append_own _ rfl (.tmp 70) (.tmp 71) 40 rfl wc.heap.size 56 i56 (.slice none 0 0) 1 24 Try.underlying40 hi hz0 hz1 hz2 rfl (by decide) _ k (newsOf k k bsu csu) rfl hown1.out ⟨gc, 0, none⟩ m cc (newsOf m k bsc csc) rfl (by rw [newsOf_len, Nat.mul_one]) (fun j u hj => hgrow1.out.cell (cell_below (box_below wc _) (HNC.out j u hj)) (by rw [add_plain]; intro e; injection e with e; have := hlc.out; simp at e; omega)) (newsOf_one _ _ _ _) (by unfold maxLen; omega) (by omega) (by have := hgrow1.out.size; simp at this; omega) ?_; intro v2 w2 hown2 hgrow2 hz; clear hz; have hbA := Lib.hid (show Below wc.heap.size wc w2 from ((box_below wc _).grown hgrow1.out (by simp) (by intro k hk; injection hk with hk; simp at hk; omega)).grown hgrow2 (by have := hgrow1.out.size; simp at this; omega) (own_ge hown1.out)); obtain ⟨ga, ca, hv2, hA0⟩ := all_mat (by omega) hown2 hbA.out hbc.out HRU.out HRC.out; have hA := Lib.hid hA0; clear hown1 hown2 hgrow1 hgrow2 hA0; subst hv2))
  obtain ⟨wL, hwL⟩ : ∃ x, x = w2.alloc (.cells (madeCells #[.bool false] K) 4) := ⟨_, rfl⟩
  have HL : Hid (PickR wL wL w2.heap.size K (.slice none 0 0) [] ∧ Below w.heap.size w wL ∧ MatAt wL ga (k + m) k (fun i => if i < k then bsu i else bsc (i - k)) (unitCau k) ∧ MatAt wL gu k k bsu unitE ∧ w.heap.size ≤ w2.heap.size) := by
    subst hwL
    have hx := box_below w2 (.cells (madeCells #[.bool false] K) 4)
    have hku : Below wu.heap.size wu w2 := below_then hbc.out hbc.out.size hbA.out
    have hkk : Below wk.heap.size wk wu := hMu.out.2.2.2.2
    refine Lib.hid ⟨⟨?_, Chg.refl _ _, by simp, World.ownsRow_nil _ _ _ _, List.nodup_nil, fun r hr => by cases hr⟩, ?_, hA.out.below hx, (hMu.out.1.below hku).below hx, by have := hb.out.size; have := hkk.size; have := hku.size; omega⟩
    · exact RowAt.of_is ((World.rowIs_made w2 _ K 4).congr (fun i hi => by simp))
    · exact below_then (below_then (below_then hb.out hb.out.size hkk) (by have := hb.out.size; have := hkk.size; omega) hku) (by have := hb.out.size; have := hkk.size; have := hku.size; omega) hx
  obtain ⟨gb, hgb⟩ : ∃ x, x = w2.heap.size := ⟨_, rfl⟩
  rw [← hgb] at HL
  rw [← hwL]
  rw [← hgb]
  clear hwL hgb hmk hA hbA hMu hMc HNU HNC HRU HRC hbc hlc hb
  obtain ⟨hL1, hL2, hL3, hL4, hL5⟩ := HL.out
  have HI := Lib.hid hL1
  have H01 := Lib.hid hL1
  have HB := Lib.hid hL2
  have HA := Lib.hid hL3
  have HU := Lib.hid hL4
  have HGB := Lib.hid hL5
  clear HL hL1 hL2 hL3 hL4 hL5
  obtain ⟨i3, hi3, hz30, hz31, hz32⟩ := info_parts info3
  have K0 : (0 : Int) < (K : Int) := by have := HKN.out; omega
  have K1 : (K : Int) ≤ 24 := by have := HKN.out; omega
  go_loopg [13, 14] k (fun kq v13 v14 wr => ∃ R : List Nat, R.length + kq = k ∧ v14 = .int .i64 (R.length : Int) ∧ Hid (PickR wL wr gb K v13 R))
  case atStart => exact ⟨[], by simp, rfl, HI⟩
  case round =>
    clear HI
    obtain ⟨R, hR, rfl, HI⟩ := hrel
    obtain ⟨A13, c13, hv⟩ := own_slice HI.out.own
    subst hv
    by_cases hlt : R.length < k
    · have r0 : (R.length : Int) < (k : Int) := by omega
      have r00 : (0 : Int) ≤ (R.length : Int) := by omega
      have hBw := Lib.hid (HI.out.chg.below HB.out HB.out.size (fun i hi => by rw [hi]; exact HGB.out))
      obtain ⟨u, hu1, hu2⟩ := some_free (l := R) (K := K) (by have := HKN.out; omega)
      have HU2 := Lib.hid hu2
      clear hu2
      by_cases hpick : R.length < pn ∧ 0 ≤ f R.length
      · obtain ⟨ad, rfl, hc⟩ := HP.out.at_ hpick.1
        obtain ⟨q, hq⟩ := Int.eq_ofNat_of_zero_le hpick.2
        rw [hq] at hc
        have hcw := cell_below hBw.out hc
        have r1 : (R.length : Int) < (pn : Int) := by omega
        have r2 : (0 : Int) ≤ (q : Int) := by omega
        have r3 : (q : Int) ≤ 9223372036854775807 := by have := (HF.out _ hpick.1).2; omega
        clear hc hpick hq
        go_wp2_with (fail)
        go_loopg [15] (dist u K (q % K)) (fun kq v15 wq => ∃ n : Nat, n < K ∧ v15 = .int .i64 (n : Int) ∧ dist u K n = kq ∧ wr = wq)
        case atStart => exact ⟨q % K, Nat.mod_lt _ (by omega), by go_num, rfl, rfl⟩
        case round =>
          obtain ⟨n, hn, rfl, hkq, rfl⟩ := hrel
          have n0 : (0 : Int) ≤ (n : Int) := by omega
          have n1 : (n : Int) < (K : Int) := by omega
          have hcu := HI.out.used.cell hn
          by_cases hin : n ∈ R
          · have hne : n ≠ u := fun e => HU2.out (e ▸ hin)
            rw [decide_eq_true hin] at hcu
            have HD := Lib.hid (dist_next hu1 hn hne)
            have HQ := Lib.hid hkq
            have HM := Lib.hid (next_mod hn)
            clear hkq hin hne
            go_wp2_with (fail)
            go_roundg (dist u K (nextN K n))
            case measure => have := HD.out; have := HQ.out; omega
            case rel => exact ⟨nextN K n, next_lt hn, congrArg (Value.int .i64) (by rw [← HM.out]; rfl), rfl, rfl⟩
          · rw [decide_eq_false hin] at hcu
            have hfz := HI.out.used.frozen n
            have HIN := Lib.hid hin
            have HQ := Lib.hid hkq
            clear hkq hin hcw
            go_wp2_with (first | (at_builtin; refine wpList_append_own _ rfl (.tmp 113) (.tmp 115) 50 rfl wL.heap.size 3 i3 (.int .i64 0) 1 8 Try.underlying50 hi3 hz30 hz31 hz32 rfl (by decide) _ R.length (R.map nv) rfl ((HI.out.ownS (n := n)).alloc _) _ 1 1 [.int .i64 (n : Int)] rfl rfl (one_news _ _ _ _ (by simp) rfl) (one_one _ rfl) (by unfold maxLen; omega) (by omega) (by have := HI.out.chg.size; simp; omega) ?_; intro v' w' hown' hgrow' hz; clear hz; have HS := Lib.hid (HI.out.step hn HIN.out hown' hgrow'); clear hown' hgrow'))
            go_roundg (k - (R.length + 1))
            case measure => omega
            case rel => exact ⟨R ++ [n], by rw [List.length_append]; simp; omega, congrArg (Value.int .i64) (by simp), HS⟩
      · have hno : (pn ≤ R.length) ∨ (R.length < pn ∧ f R.length < 0) := by omega
        clear hpick
        rcases hno with hno | ⟨hno, hneg⟩
        · have r1 : (pn : Int) ≤ (R.length : Int) := by omega
          go_wp2_with (fail)
          go_loopg [16] u (fun kq v16 wq => ∃ n : Nat, n + kq = u ∧ v16 = .int .i64 (n : Int) ∧ wr = wq)
          case atStart => exact ⟨0, by omega, rfl, rfl⟩
          case round =>
            obtain ⟨n, hkq, rfl, rfl⟩ := hrel
            have hn : n < K := by omega
            have n0 : (0 : Int) ≤ (n : Int) := by omega
            have n1 : (n : Int) < (K : Int) := by omega
            have hcu := HI.out.used.cell hn
            by_cases hin : n ∈ R
            · have hne : n ≠ u := fun e => HU2.out (e ▸ hin)
              rw [decide_eq_true hin] at hcu
              have HQ := Lib.hid hkq
              have HNE := Lib.hid hne
              clear hkq hin hne
              go_wp2_with (fail)
              go_roundg (u - (n + 1))
              case measure => have := HNE.out; have := HQ.out; omega
              case rel => exact ⟨n + 1, by have := HNE.out; have := HQ.out; omega, by go_num, rfl⟩
            · rw [decide_eq_false hin] at hcu
              have hfz := HI.out.used.frozen n
              have HIN := Lib.hid hin
              have HQ := Lib.hid hkq
              clear hkq hin
              go_wp2_with (first | (at_builtin; refine wpList_append_own _ rfl (.tmp 126) (.tmp 128) 50 rfl wL.heap.size 3 i3 (.int .i64 0) 1 8 Try.underlying50 hi3 hz30 hz31 hz32 rfl (by decide) _ R.length (R.map nv) rfl ((HI.out.ownS (n := n)).alloc _) _ 1 1 [.int .i64 (n : Int)] rfl rfl (one_news _ _ _ _ (by simp) rfl) (one_one _ rfl) (by unfold maxLen; omega) (by omega) (by have := HI.out.chg.size; simp; omega) ?_; intro v' w' hown' hgrow' hz; clear hz; have HS := Lib.hid (HI.out.step hn HIN.out hown' hgrow'); clear hown' hgrow'))
              go_roundg (k - (R.length + 1))
              case measure => omega
              case rel => exact ⟨R ++ [n], by rw [List.length_append]; simp; omega, congrArg (Value.int .i64) (by simp), HS⟩
        · obtain ⟨ad, rfl, hc⟩ := HP.out.at_ hno
          have hcw := cell_below hBw.out hc
          have r1 : (R.length : Int) < (pn : Int) := by omega
          clear hc
          go_wp2_with (fail)
          go_loopg [16] u (fun kq v16 wq => ∃ n : Nat, n + kq = u ∧ v16 = .int .i64 (n : Int) ∧ wr = wq)
          case atStart => exact ⟨0, by omega, rfl, rfl⟩
          case round =>
            obtain ⟨n, hkq, rfl, rfl⟩ := hrel
            have hn : n < K := by omega
            have n0 : (0 : Int) ≤ (n : Int) := by omega
            have n1 : (n : Int) < (K : Int) := by omega
            have hcu := HI.out.used.cell hn
            by_cases hin : n ∈ R
            · have hne : n ≠ u := fun e => HU2.out (e ▸ hin)
              rw [decide_eq_true hin] at hcu
              have HQ := Lib.hid hkq
              have HNE := Lib.hid hne
              clear hkq hin hne
              go_wp2_with (fail)
              go_roundg (u - (n + 1))
              case measure => have := HNE.out; have := HQ.out; omega
              case rel => exact ⟨n + 1, by have := HNE.out; have := HQ.out; omega, by go_num, rfl⟩
            · rw [decide_eq_false hin] at hcu
              have hfz := HI.out.used.frozen n
              have HIN := Lib.hid hin
              have HQ := Lib.hid hkq
              clear hkq hin
              go_wp2_with (first | (at_builtin; refine wpList_append_own _ rfl (.tmp 126) (.tmp 128) 50 rfl wL.heap.size 3 i3 (.int .i64 0) 1 8 Try.underlying50 hi3 hz30 hz31 hz32 rfl (by decide) _ R.length (R.map nv) rfl ((HI.out.ownS (n := n)).alloc _) _ 1 1 [.int .i64 (n : Int)] rfl rfl (one_news _ _ _ _ (by simp) rfl) (one_one _ rfl) (by unfold maxLen; omega) (by omega) (by have := HI.out.chg.size; simp; omega) ?_; intro v' w' hown' hgrow' hz; clear hz; have HS := Lib.hid (HI.out.step hn HIN.out hown' hgrow'); clear hown' hgrow'))
              go_roundg (k - (R.length + 1))
              case measure => omega
              case rel => exact ⟨R ++ [n], by rw [List.length_append]; simp; omega, congrArg (Value.int .i64) (by simp), HS⟩
    · have r0 : (k : Int) ≤ (R.length : Int) := by omega
      have HRK := Lib.hid (show R.length = k by omega)
      obtain ⟨s, hs⟩ := picks_inverse R HI.out.nodup HRK.out (fun r hr => by have := HI.out.lt r hr; have := HKN.out; omega) (m := m) (by omega)
      have HS := Lib.hid hs
      have hAw := Lib.hid ((MatAt.chg HA.out HI.out.chg (fun e => MatAt.ne4 HA.out H01.out.used e.symm) (fun i hi e => MatAt.ne4' HA.out H01.out.used hi e)).rd)
      have hUw := Lib.hid ((MatAt.chg HU.out HI.out.chg (fun e => MatAt.ne4 HU.out H01.out.used e.symm) (fun i hi e => MatAt.ne4' HU.out H01.out.used hi e)).rd)
      have hBw := Lib.hid (HI.out.chg.below HB.out HB.out.size (fun i hi => by rw [hi]; exact HGB.out))
      have hRr := Lib.hid (own_rd HI.out.own (by omega))
      clear hs
      go_wp2_with (fail)
      refine (rows_k k m ga ca A13 c13 R wr (by omega) (by omega) (by omega) HRK.out hAw.out hRr.out (fun r hr => by have := HI.out.lt r hr; have := HKN.out; omega)).mono ?_
      rintro e wp ⟨gp, cp, rfl, hp, hb1⟩
      replace hp := Lib.hid hp
      replace hb1 := Lib.hid hb1
      go_wp2_with (fail)
      refine (inv_k gp cp k _ s wp (by omega) (by omega) hp.out HS.out.1).mono ?_
      rintro e wv ⟨gv, cv, rfl, hv, hb2⟩
      replace hv := Lib.hid hv
      replace hb2 := Lib.hid hb2
      go_wp2_with (fail)
      refine (times_k gp gv cp cv k _ _ wv (by omega) (by omega) (hp.out.below hb2.out) hv.out).mono ?_
      rintro e wx ⟨gx, cx, rfl, hx, hb3⟩
      replace hx := Lib.hid hx
      replace hb3 := Lib.hid hb3
      go_wp2_with (fail)
      refine (times_k gv gp cv cp k _ _ wx (by omega) (by omega) (hv.out.below hb3.out) ((hp.out.below hb2.out).below hb3.out)).mono ?_
      rintro e wy ⟨gy, cy, rfl, hy, hb4⟩
      replace hy := Lib.hid hy
      replace hb4 := Lib.hid hb4
      have hU4 := Lib.hid ((((hUw.out.below hb1.out).below hb2.out).below hb3.out).below hb4.out)
      have hX4 := Lib.hid (hx.out.below hb4.out)
      go_wp2_with (first | (go_at_call 24; with_reducible refine (same_k gx gu cx cu k _ _ _ (by omega) hX4.out hU4.out HS.out.2.1).mono ?_; rintro e w7 ⟨rfl, hd⟩; replace hd := Lib.hid hd) | (go_at_call 24; with_reducible refine (same_k gy gu cy cu k _ _ _ (by omega) (hy.out.below hd.out.below) (hU4.out.below hd.out.below) HS.out.2.2).mono ?_; rintro e w8 ⟨rfl, hd2⟩; replace hd2 := Lib.hid hd2))
      go_ret
      refine ⟨rfl, ?_⟩
      have b1 := below_then hBw.out hBw.out.size hb1.out
      have b2 := below_then b1 b1.size hb2.out
      have b3 := below_then b2 b2.size hb3.out
      have b4 := below_then b3 b3.size hb4.out
      have b5 := below_then b4 b4.size hd.out.below
      exact below_then b5 b5.size hd2.out.below

set_option maxRecDepth 100000 in
set_option maxHeartbeats 4000000 in
theorem walk_out (k m : Int) (P : Option Addr) (pn pc : Nat) (w : World) (h : k < 1 ∨ (1 ≤ k ∧ m < 1) ∨ (1 ≤ k ∧ 1 ≤ m ∧ 12 < k) ∨ (1 ≤ k ∧ 1 ≤ m ∧ k ≤ 12 ∧ 12 < m)) :
    Calls Try.prog 7 #[.int .i64 k, .int .i64 m, .slice P pn pc] w fun e w' => e = .returned (.bool true) ∧ Below w.heap.size w w' := by
  rcases h with h | ⟨h1, h⟩ | ⟨h1, h2, h⟩ | ⟨h1, h2, h3, h⟩
  all_goals
    go_enter Try.func7, Try.ntmps7
    go_wp2_with (go_at_call 11; refine (known_c _).mono ?_; rintro e w' ⟨rfl, hb⟩; replace hb := Lib.hid hb)
    go_ret
    exact ⟨rfl, hb.out⟩

theorem walk (a0 a1 : Int) (a2 : Option Addr) (len2 cap2 : Nat) (w : World) (w0 : (Lit.int .i64 a0).wf = true) (w1 : (Lit.int .i64 a1).wf = true) (y2 : len2 * 8 ≤ 140737488351232) (w2 : IsInts w a2 len2 cap2) :
    Calls Try.prog 7 #[.int .i64 a0, .int .i64 a1, .slice a2 len2 cap2] w fun e w' => e = .returned (.bool true) ∧ Below w.heap.size w w' := by
  obtain ⟨f, h1, h2, h3⟩ := w2
  by_cases h : 1 ≤ a0 ∧ a0 ≤ 12 ∧ 1 ≤ a1 ∧ a1 ≤ 12
  · obtain ⟨k, rfl⟩ := Int.eq_ofNat_of_zero_le (show 0 ≤ a0 by omega)
    obtain ⟨m, rfl⟩ := Int.eq_ofNat_of_zero_le (show 0 ≤ a1 by omega)
    exact walk_in k m a2 len2 cap2 f w h1 (by omega) (by omega) (by omega) (by omega) (by omega) h2
  · exact walk_out a0 a1 a2 len2 cap2 w (by omega)

set_option maxRecDepth 100000 in
theorem lifted (os : Os) (started : os.Started) (H : Type) (enc : TypeId × Value → H) :
    ReturnsInHanded {} Try.checked os 7 .any (Rows.gfInvertsSpec.pre6 enc Try.prog Try.f7 Rows.gfInvertsRow.domain false) (Rows.gfInvertsSpec.post enc Try.prog Try.f7 false true false false) := by
  refine returnsInHanded_of_change_sized (C := Try.checked) own started (by kernel_rfl) Try.func7
    (ChangeSpec.witness6 (enc := enc) (C := Try.checked) false ⟨#[], #[.int .i64 0, .int .i64 0, .slice none 0 0], []⟩ 8 (by kernel_rfl) (by kernel_rfl) (by kernel_rfl) (by kernel_rfl)) ?_
  intro W base args ds gs before hval0 hW hcnd hsz0 _
  have hsz : (DataW.weightsEach Try.prog (Try.f7.params.toList ++ Rows.gfInvertsSpec.plain.varTypes Try.prog) (ds ++ gs)).all (· ≤ reachBytes) = true := hsz0
  have hval : ∀ (j : Nat) t v, Try.f7.params[j]? = some t → args[j]? = some v → Value.okWide Try.prog W .any base t v := hval0
  have hW' := hW
  obtain ⟨p, q, hA0, hV, rfl, hfz, hnd⟩ := hW
  have hA : DataW.TrodAll enc Try.prog W 0 (fun _ => true) true Try.f7.params.toList args.toList ds p := hA0
  rw [Try.params7] at hA hval hsz
  obtain ⟨v0, vs0, d0, ds0, p0, q0, hargs, rfl, rfl, h0, r0⟩ := trodAll_cons hA
  obtain ⟨v1, vs1, d1, ds1, p1, q1, rfl, rfl, rfl, h1, r1⟩ := trodAll_cons r0
  obtain ⟨v2, vs2, d2, ds2, p2, q2, rfl, rfl, rfl, h2, r2⟩ := trodAll_cons r1
  obtain ⟨rfl, rfl, rfl⟩ := trodAll_nil r2
  obtain rfl : args = #[v0, v1, v2] := by cases args; simp_all
  obtain ⟨rfl, rfl⟩ := trodVars_none hV
  obtain ⟨a0, rfl, rfl, rfl, w0⟩ := open_int Try.underlying3 (hval 0 3 v0 rfl rfl) h0
  obtain ⟨a1, rfl, rfl, rfl, w1⟩ := open_int Try.underlying3 (hval 1 3 v1 rfl rfl) h1
  obtain ⟨a2, len2, cap2, rfl⟩ := okWide_slice Try.underlying50 (hval 2 50 v2 rfl rfl)
  have k2 := h2
  have lt2 : ∀ x ∈ p2, x.block < W.heap.size := by obtain ⟨m, hm⟩ := k2; exact DataW.trod_lt m _ _ _ hm
  obtain ⟨y2, w2⟩ := ints_of hsz (j := 2) rfl rfl h2
  clear hA0 hval0 hsz0 hsz
  refine (walk a0 a1 a2 len2 cap2 W w0 w1 y2 w2).mono fun e W' ⟨he, bel⟩ => ?_
  subst he
  exact ⟨_, rfl, _, _, _, [], _, [], hW', trodAll_mk1 (shut_bool Try.underlying4 _), (trodAll_cons_mk (shut_int Try.underlying3 w0) (trodAll_cons_mk (shut_int Try.underlying3 w1) (trodAll_cons_mk (Below.trod laidOut (by kernel_rfl) (of_decide_eq_true (by kernel_rfl)) k2 bel lt2) trodAll_mk0))), rfl, bel.frame _, fun h => by cases h⟩
theorem over : Rows.gfInvertsRow.holds Try.pinned (OpenSpec.ofChange Rows.gfInvertsSpec) :=
  OpenClaim.holds_of_wide 7 Try.f7 rfl rfl rfl rfl rfl rfl rfl ⟨rfl, rfl, rfl, rfl, rfl⟩ rfl rfl rfl rfl rfl (by kernel_rfl) Try.func7 (by kernel_rfl)
    (of_decide_eq_true (by kernel_rfl)) (by unfold Func.isWrapper; first | (rw [if_pos (by decide +kernel)]; kernel_rfl) | (rw [if_neg (by decide +kernel)]; exact ⟨rfl, rfl⟩))
    (fun os started H enc _ => lifted os started H enc)
theorem proved : Rows.GfInvertsSaid := over
#print axioms proved
end Go.Proofs.Ytldndaimgfegnaa.gfInverts
namespace Go.Proofs.Ytldndaimgfegnaa
/-- The row, under a short name, for the claim. -/
theorem gfInverts_holds : Rows.GfInvertsSaid := gfInverts.proved
end Go.Proofs.Ytldndaimgfegnaa
