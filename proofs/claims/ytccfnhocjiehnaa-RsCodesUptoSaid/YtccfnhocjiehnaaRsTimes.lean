/- rs.times: a matrix times shards, byte by byte. -/
import Derived.Test.YtccfnhocjiehnaaProd
import Derived.Test.YtccfnhocjiehnaaTimes
import Derived.Test.YtccfnhocjiehnaaRefB
import Derived.StillTailTactics
namespace Go.Proofs.Ytccfnhocjiehnaa
open Go.RowKit
set_option linter.unusedVariables false
set_option linter.unusedSimpArgs false

/-- Rows above j are done; of row j: i shards, and of shard i the first x bytes. -/
def tmSt (F G : Nat → Nat → Gf.E) (s j i x : Nat) : Nat → Nat → Gf.E := fun p y => if p < j then timesF F G s p y else if y < x then sumE (i + 1) (fun k => Gf.mul (F p k) (G k y)) else sumE i (fun k => Gf.mul (F p k) (G k y))
/-- What lies in memory while the product grows. -/
def TmI (w wr : World) (g n j q : Nat) (bs : Nat → Nat) (St : Nat → Nat → Gf.E) : Prop := OwnMat w wr g j q bs St ∧ ∃ oc, RowAt wr g 22 n oc
theorem TmI.congr {w wr : World} {g n j q : Nat} {bs : Nat → Nat} {F G : Nat → Nat → Gf.E} (h : TmI w wr g n j q bs F) (e : ∀ p y, p < j → y < q → F p y = G p y) : TmI w wr g n j q bs G := ⟨h.1.congr e, h.2⟩
theorem TmI.over {w wr w1 : World} {g n j q : Nat} {bs : Nat → Nat} {F : Nat → Nat → Gf.E} (h : TmI w wr g n j q bs F) (hb : Below wr.heap.size wr w1) : TmI w w1 g n j q bs F := by
  obtain ⟨⟨h1, h2, h3, h4, h5⟩, oc, h6⟩ := h
  exact ⟨⟨h1.below hb, h2, h3, h4, below_then h5 h5.size hb⟩, oc, h6.below hb⟩
theorem TmI.set {w wr : World} {g n j q : Nat} {bs : Nat → Nat} {F : Nat → Nat → Gf.E} (h : TmI w wr g n j q bs F) {i x : Nat} (hi : i < j) (hx : x < q) (u : Gf.E) : TmI w (wr.setCell ⟨bs i, x, none⟩ (vb u)) g n j q bs (upd F i x u) := by
  obtain ⟨oc, h6⟩ := h.2
  exact ⟨h.1.set hi hx u, oc, h6.setOther (h.1.ne hi) _⟩
theorem TmI.row {w wr : World} {g n j q : Nat} {bs : Nat → Nat} {F G : Nat → Nat → Gf.E} {s : Nat} (h : TmI w wr g n j q bs (timesF F G s)) (hj : j < n) :
    TmI w ((wr.alloc (.cells (madeCells #[vb 0] q) 5)).setCell ⟨g, j, none⟩ (.slice (some ⟨wr.heap.size, 0, none⟩) q q)) g n (j + 1) q (fun i => if i = j then wr.heap.size else bs i) (tmSt F G s j 0 0) := by
  obtain ⟨⟨⟨cs, h1, hr⟩, h2, h3, h4, h5⟩, oc, h6⟩ := h
  have hsz := h5.size
  have hgl := h6.lt
  refine ⟨⟨⟨fun i => if i = j then q else cs i, ?_, fun i hi => ?_⟩, h2, fun i hi => ?_, fun a b ha hb => ?_, (h5.alloc hsz _).setCell h2 _⟩, _, (h6.alloc _).set j _⟩
  · obtain ⟨c, hb, hn, hc⟩ := (h6.alloc (.cells (madeCells #[vb 0] q) 5)).set j (.slice (some ⟨wr.heap.size, 0, none⟩) q q)
    obtain ⟨c2, hb2, hn2, hc2⟩ := (h1.alloc (.cells (madeCells #[vb 0] q) 5)).set j (.slice (some ⟨wr.heap.size, 0, none⟩) q q)
    refine ⟨c, hb, by omega, fun i hi => ?_⟩
    by_cases e : i = j
    · subst e
      rw [hc i hj]; simp
    · rw [hb] at hb2
      injection hb2 with hb2
      injection hb2 with hb2 _
      subst hb2
      rw [hc2 i (by omega)]; simp [e]
  · by_cases e : i = j
    · subst e
      simp only [if_true]
      refine ⟨Nat.le_refl _, ?_⟩
      have hm := RowAt.of_is (World.rowIs_made wr (vb 0) q 5)
      refine (hm.setOther (a := ⟨g, i, none⟩) (by simp; omega) _).congr (fun y hy => ?_)
      unfold tmSt
      rw [if_neg (Nat.lt_irrefl i), if_neg (Nat.not_lt_zero y)]
      rfl
    · simp only [e, if_false]
      obtain ⟨g1, g2⟩ := hr i (by omega)
      refine ⟨g1, ((g2.alloc _).setOther (a := ⟨g, j, none⟩) (fun he => ?_) _).congr (fun y hy => ?_)⟩
      · exact RowAt.ne_ g2 h6 (by decide) he
      · unfold tmSt
        rw [if_pos (show i < j by omega)]
  · by_cases e : i = j
    · simp only [e, if_true]; exact hsz
    · simp only [e, if_false]; exact h3 i (by omega)
  · intro he
    by_cases ea : a = j
    · by_cases eb : b = j
      · omega
      · simp only [ea, eb, if_true, if_false] at he
        have := (hr b (by omega)).2.lt
        omega
    · by_cases eb : b = j
      · simp only [ea, eb, if_true, if_false] at he
        have := (hr a (by omega)).2.lt
        omega
      · simp only [ea, eb, if_false] at he
        exact h4 a b (by omega) (by omega) he
theorem tmSt_at (F G : Nat → Nat → Gf.E) (s j i x : Nat) : tmSt F G s j i x j x = sumE i (fun k => Gf.mul (F j k) (G k x)) := by
  unfold tmSt
  rw [if_neg (Nat.lt_irrefl j), if_neg (Nat.lt_irrefl x)]
theorem tmSt_step (F G : Nat → Nat → Gf.E) (s j i x : Nat) : ∀ p y, p < j + 1 → upd (tmSt F G s j i x) j x (Gf.add (sumE i (fun k => Gf.mul (F j k) (G k x))) (Gf.mul (F j i) (G i x))) p y = tmSt F G s j i (x + 1) p y := fun p y hp => by
  unfold upd tmSt
  by_cases e : p = j ∧ y = x
  · rw [if_pos e, e.1, e.2, if_neg (Nat.lt_irrefl j), if_pos (Nat.lt_succ_self x)]; rfl
  · rw [if_neg e]
    by_cases e1 : p < j
    · rw [if_pos e1, if_pos e1]
    · rw [if_neg e1, if_neg e1]
      by_cases e2 : y < x
      · rw [if_pos e2, if_pos (by omega)]
      · rw [if_neg e2, if_neg (by omega)]
theorem tmSt_shard (F G : Nat → Nat → Gf.E) (s j i q : Nat) : ∀ p y, p < j + 1 → y < q → tmSt F G s j i q p y = tmSt F G s j (i + 1) 0 p y := fun p y _ hy => by
  unfold tmSt
  by_cases e1 : p < j
  · rw [if_pos e1, if_pos e1]
  · rw [if_neg e1, if_neg e1, if_pos hy, if_neg (Nat.not_lt_zero y)]
theorem tmSt_row (F G : Nat → Nat → Gf.E) (s j q : Nat) : ∀ p y, p < j + 1 → y < q → tmSt F G s j s 0 p y = timesF F G s p y := fun p y _ hy => by
  unfold tmSt
  by_cases e1 : p < j
  · rw [if_pos e1]
  · rw [if_neg e1, if_neg (Nat.not_lt_zero y)]; rfl
theorem RowAt.of_zero {w : World} {b n : Nat} {t : TypeId} {f g : Nat → Value} (h : RowAt w b t n f) : RowAt w b t 0 g := by
  obtain ⟨c, hb, _, _⟩ := h
  exact ⟨c, hb, Nat.zero_le _, fun i hi => absurd hi (Nat.not_lt_zero _)⟩
theorem OwnMat.rowAt' {w wr : World} {g n m : Nat} {bs : Nat → Nat} {F : Nat → Nat → Gf.E} (h : OwnMat w wr g n m bs F) {i : Nat} (hi : i < n) : RowAt wr (bs i) 5 m (fun j => vb (F i j)) := by
  obtain ⟨⟨cs, _, h2⟩, _⟩ := h
  exact (h2 i hi).2
def PbR (wr : World) (pb : Nat) (a : Gf.E) : Prop := pb < wr.heap.size ∧ ∀ b, b < 256 → wr.cell? ⟨pb, b, none⟩ = some (prodF a b)
theorem PbR.set {wr : World} {pb : Nat} {a : Gf.E} (h : PbR wr pb a) {ad : Addr} (hne : pb ≠ ad.block) (v : Value) : PbR (wr.setCell ad v) pb a :=
  ⟨by simpa using h.1, fun b hb => (World.cell?_setCell_other _ _ _ _ (fun e => hne (by rw [e]))).trans (h.2 b hb)⟩
theorem prodF_byte (a b : Gf.E) : prodF a b.val = vb (Gf.mul a b) := by
  unfold prodF
  rw [byteE_nat b.isLt]

theorem size_setCells (b : Nat) : ∀ (vs : List Value) (o : Nat) (w : World), (w.setCells b o vs).heap.size = w.heap.size
  | [], _, _ => rfl
  | v :: r, o, w => by
    rw [World.setCells, size_setCells b r]
    simp
theorem wpList_prod {ops : Array Oper} {rest : List Oper} {o : Oper} {a : Act} {Q : Exit → Act → World → Prop} {w2 : World} (hgd : o.guard = none) (x y : Operand) (ho : o.op = .store 88 x y) (e : Gf.E)
    (hx : a.eval x = .pointer (some ⟨w2.heap.size, 0, none⟩)) (hy : a.eval y = .agg (prodA e)) (h : ∀ w3, Below w2.heap.size w2 w3 → PbR w3 w2.heap.size e → wpList Try.prog ops Q rest (a.put o.dst undef) w3) :
    wpList Try.prog ops Q (o :: rest) a (w2.alloc (.cells Try.zeroCells88 88)) := by
  have hr : (w2.alloc (.cells Try.zeroCells88 88)).rowIs w2.heap.size 88 256 (fun _ => vb 0) := by
    refine ⟨_, heap_alloc_new w2 _, by rw [zero88]; simp, fun i hi => ?_⟩
    rw [zero88]; simp [hi, vb]
  have ht : (w2.alloc (.cells Try.zeroCells88 88)).there w2.heap.size 0 (prodA e).size := fun j hj => by
    rw [prodA_size] at hj
    rw [Nat.zero_add, hr.cell hj]
    exact ⟨rfl, hr.frozen j⟩
  refine wpList_store_mid hgd 88 x y ho w2.heap.size 0 (prodA e) hx hy ht (by rw [info88, prodA_size]) (prodA_one e) (h _ (setCells_below (w1 := w2) (Nat.le_refl _) _ _ _ (box_below _ _)) ⟨by rw [size_setCells]; simp, fun b hb => ?_⟩)
  have := World.rangeAt_setCells_same (w2.alloc (.cells Try.zeroCells88 88)) w2.heap.size 0 (prodA e).toList (by rw [Array.length_toList]; exact ht) b (prodF e b) (by rw [Array.getElem?_toList]; exact prodA_at e hb)
  rw [Nat.zero_add] at this
  exact this

set_option maxRecDepth 100000 in
set_option maxHeartbeats 16000000 in
theorem rstimes_c (A B : Option Addr) (n c s d q : Nat) (L : Nat → Nat) (F G : Nat → Nat → Gf.E) (w : World) (ha : RdM w A n L F) (hb0 : RdM w B s (fun _ => q) G) (hn : n ≤ 256) (hs : s ≤ 256) (hq : q ≤ 1048576) (hs1 : 1 ≤ s) (hq1 : 1 ≤ q) (hl : ∀ i, i < n → s ≤ L i) (hl2 : ∀ i, i < n → L i ≤ 1048576) :
    Calls Try.prog 43 #[.slice A n c, .slice B s d] w fun e w' => ∃ v, e = .returned v ∧ NewMat w w' v n q (timesF F G s) := by
  obtain ⟨Ar, Cr, hr, hrow⟩ := ha
  obtain ⟨Br, Dr, hr2, hrow2⟩ := hb0
  have HA := Lib.hid hr
  have HAR := Lib.hid (fun i hi => (hrow i hi).2)
  have HB := Lib.hid hr2
  have HBR := Lib.hid (fun i hi => (hrow2 i hi).2)
  have HL := Lib.hid hl
  have HL2 := Lib.hid hl2
  clear hr hrow hr2 hrow2 hl hl2
  have hmk := run_make_row' (P := Try.prog) 28 22 (.slice none 0 0) 24 Try.underlying28 info56 rfl .i64 .i64 n (by omega) (by omega)
  have hmk2 := run_make_row' (P := Try.prog) 22 5 (.int .u8 0) 1 Try.underlying22 info5 rfl .i64 .i64 q (by omega) (by omega)
  have s1 : (0 : Int) < (s : Int) := by omega
  go_enter Try.func43, Try.ntmps43
  go_wp2_with (fail)
  have HI : Hid (TmI w (w.alloc (.cells (madeCells #[.slice none 0 0] n) 22)) w.heap.size n 0 q (fun _ => 0) (timesF F G s)) := Lib.hid
    ⟨⟨⟨fun _ => 0, (RowAt.of_is (World.rowIs_made w (.slice none 0 0) n 22)).of_zero, fun i hi => absurd hi (Nat.not_lt_zero _)⟩, Nat.le_refl _, fun i hi => absurd hi (Nat.not_lt_zero _), fun i j hi => absurd hi (Nat.not_lt_zero _), box_below _ _⟩, _, RowAt.of_is (World.rowIs_made w (.slice none 0 0) n 22)⟩
  go_loopg [18] n (fun kq v18 wr => ∃ j : Nat, j + kq = n ∧ v18 = .int .i64 (j : Int) ∧ ∃ bs, Hid (TmI w wr w.heap.size n j q bs (timesF F G s)))
  case atStart => exact ⟨0, by omega, rfl, _, HI⟩
  case round =>
    clear HI
    obtain ⟨j, hj, rfl, bs, HI⟩ := hrel
    by_cases hlt : j < n
    · have hbw := HI.out.1.2.2.2.2
      obtain ⟨ax, rfl, f1⟩ := (HA.out.below hbw).at_ hlt
      obtain ⟨bx, rfl, f2⟩ := (HB.out.below hbw).at_ (show 0 < s by omega)
      rw [show bx.add 0 = bx by simp [Addr.add]] at f2
      obtain ⟨aj, haj, _⟩ := (HAR.out j hlt).at_ (show 0 < L j by have := HL.out j hlt; omega)
      rw [haj] at f1
      have HAJ := Lib.hid haj
      have f2' : ∀ o, (wr.alloc o).cell? bx = some (.slice (Br 0) q (Dr 0)) := fun o => cell_below (box_below wr o) f2
      obtain ⟨oc, hoc⟩ := HI.out.2
      have f3 : ∀ o, (wr.alloc o).cell? ⟨w.heap.size, j, none⟩ = some (oc j) := fun o => (hoc.alloc o).cell hlt
      have f4 : ∀ o, (wr.alloc o).frozen? ⟨w.heap.size, j, none⟩ = false := fun o => (hoc.alloc o).frozen j
      have hgl := hoc.lt
      have ht := HI.out.row hlt
      rw [World.setCell_alloc_past _ _ _ _ hgl, show vb 0 = Value.int .u8 0 from rfl] at ht
      have HT := Lib.hid ht
      have j1 : (j : Int) < (n : Int) := by omega
      have j0 : (0 : Int) ≤ (j : Int) := by omega
      clear hbw hoc HI ht haj
      go_wp2_with (fail)
      obtain ⟨b2, hb2⟩ : ∃ b2 : Nat → Nat, b2 = (fun i => if i = j then wr.heap.size else bs i) := ⟨_, rfl⟩
      rw [← hb2] at HT
      clear hb2 f1 f2 f2' f3 f4
      go_loopg [33] s (fun kq v33 wr => ∃ i : Nat, i + kq = s ∧ v33 = .int .i64 (i : Int) ∧ Hid (TmI w wr w.heap.size n (j + 1) q b2 (tmSt F G s j i 0)))
      case atStart => exact ⟨0, by omega, rfl, HT⟩
      case round =>
        clear HT
        obtain ⟨i, hi, rfl, HT⟩ := hrel
        rename_i wr0
        by_cases hli : i < s
        · have hbw := HT.out.1.2.2.2.2
          obtain ⟨bx', hbx, f1⟩ := (HB.out.below hbw).at_ hli
          injection hbx with hbx
          subst hbx
          have hl1 := HL.out j hlt
          have hl2 := HL2.out j hlt
          obtain ⟨aj', haj, f2⟩ := (RdF.below (HAR.out j hlt) hbw).at_ (show i < L j by omega)
          rw [HAJ.out] at haj
          injection haj with haj
          subst haj
          unfold vb at f2
          obtain ⟨ai, hai, _⟩ := (RdF.below (HBR.out i hli) hbw).at_ (show 0 < q by omega)
          rw [hai] at f1
          have HAI := Lib.hid hai
          have i1 : (i : Int) < (s : Int) := by omega
          have i0 : (0 : Int) ≤ (i : Int) := by omega
          have i2 : (i : Int) < (L j : Int) := by omega
          clear hbw hai
          go_wp2_with (first | (go_at_call 57; refine (products_c (F j i) _).mono ?_; rintro e w2 ⟨rfl, hb2⟩; replace hb2 := Lib.hid hb2) | (refine wpList_prod rfl (.tmp 10) (.tmp 42) rfl (F j i) (by rfl) (by rfl) ?_; intro w3 hb3 hp3; replace hb3 := Lib.hid hb3; replace hp3 := Lib.hid hp3))
          have hne : w2.heap.size ≠ b2 j := by
            have := (HT.out.1.rowAt' (Nat.lt_succ_self j)).lt
            have := hb2.out.size
            omega
          have HX := Lib.hid (show TmI w w3 w.heap.size n (j + 1) q b2 (tmSt F G s j i 0) ∧ PbR w3 w2.heap.size (F j i) from ⟨(HT.out.over hb2.out).over hb3.out, hp3.out⟩)
          have HNE := Lib.hid hne
          clear HT hb2 hb3 hp3 hne f1 f2
          go_loopg [45] q (fun kq v45 wr => ∃ x : Nat, x + kq = q ∧ v45 = .int .i64 (x : Int) ∧ Hid (TmI w wr w.heap.size n (j + 1) q b2 (tmSt F G s j i x) ∧ PbR wr w2.heap.size (F j i)))
          case atStart => exact ⟨0, by omega, rfl, HX⟩
          case round =>
            clear HX
            obtain ⟨x, hx, rfl, HX⟩ := hrel
            rename_i wr1
            by_cases hlx : x < q
            · obtain ⟨hT, hP⟩ := HX.out
              have hbw := hT.1.2.2.2.2
              obtain ⟨co, f1, hco⟩ := hT.1.cellO (Nat.lt_succ_self j)
              have f2 := hT.1.cellE (Nat.lt_succ_self j) hlx
              have fz := hT.1.frz (Nat.lt_succ_self j) x
              rw [tmSt_at] at f2
              obtain ⟨ai', hai, f3⟩ := (RdF.below (HBR.out i hli) hbw).at_ hlx
              rw [HAI.out] at hai
              injection hai with hai
              subst hai
              have f4 := hP.2 (G i x).val (G i x).isLt
              rw [prodF_byte] at f4
              unfold vb at f2 f3 f4
              obtain ⟨s0, hs0⟩ : ∃ s0, s0 = sumE i (fun k => Gf.mul (F j k) (G k x)) := ⟨_, rfl⟩
              rw [← hs0] at f2
              have e3 := u8_xor_nat s0.val (Gf.mul (F j i) (G i x)).val s0.isLt (Gf.mul (F j i) (G i x)).isLt
              have HS : Hid (TmI w ((wr.drewN 1).setCell ⟨b2 j, x, none⟩ (.int .u8 ((Gf.add s0 (Gf.mul (F j i) (G i x))).val : Int))) w.heap.size n (j + 1) q b2 (tmSt F G s j i (x + 1)) ∧ PbR ((wr.drewN 1).setCell ⟨b2 j, x, none⟩ (.int .u8 ((Gf.add s0 (Gf.mul (F j i) (G i x))).val : Int))) w2.heap.size (F j i)) := Lib.hid
                ⟨((hT.over (below_drewN (Below.refl _ _) 1)).set (Nat.lt_succ_self j) hlx (Gf.add s0 (Gf.mul (F j i) (G i x)))).congr (fun p y hp _ => by rw [hs0]; exact tmSt_step F G s j i x p y hp), PbR.set (wr := wr.drewN 1) hP HNE.out _⟩
              have x1 : (x : Int) < (q : Int) := by omega
              have x0 : (0 : Int) ≤ (x : Int) := by omega
              have g1 : ((G i x).val : Int) < 256 := by have := (G i x).isLt; omega
              have g0 : (0 : Int) ≤ ((G i x).val : Int) := by omega
              obtain ⟨gv, hgv⟩ : ∃ gv, gv = G i x := ⟨_, rfl⟩
              rw [← hgv] at f3 f4 g1 g0 e3 HS
              obtain ⟨mv, hmv⟩ : ∃ mv, mv = Gf.mul (F j i) gv := ⟨_, rfl⟩
              rw [← hmv] at f4 e3 HS
              clear hT hP hbw hs0 HX hgv hmv
              go_wp2_with (fail)
              refine wp_region_still_tail 12 (by kernel_rfl) (by kernel_rfl) ?_
              simp only [List.take_succ_cons, List.take_zero, List.drop_succ_cons, List.drop_zero]
              repeat (first | still_step)
              refine wpStill_nil ?_
              change wpList _ _ _ _ _ wr.drew
              go_wp2_with (fail)
              go_roundg (q - (x + 1))
              case measure => omega
              case rel => exact ⟨x + 1, by omega, by go_num, HS⟩
            · obtain rfl : x = q := by omega
              have HS := Lib.hid (HX.out.1.congr (tmSt_shard F G s j i x))
              clear HX
              go_wp2_with (fail)
              go_roundg (s - (i + 1))
              case measure => omega
              case rel => exact ⟨i + 1, by omega, by go_num, HS⟩
        · obtain rfl : i = s := by omega
          have HS := Lib.hid (HT.out.congr (tmSt_row F G i j q))
          clear HT
          go_wp2_with (fail)
          go_roundg (n - (j + 1))
          case measure => omega
          case rel => exact ⟨j + 1, by omega, by go_num, _, HS⟩
    · obtain rfl : j = n := by omega
      go_wp2_with (fail)
      go_ret
      exact ⟨_, rfl, w.heap.size, j, bs, rfl, Nat.le_refl _, HI.out.1⟩
end Go.Proofs.Ytccfnhocjiehnaa
