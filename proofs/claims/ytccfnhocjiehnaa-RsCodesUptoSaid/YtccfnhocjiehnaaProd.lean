/- rs.products: all products of an element, as an array. -/
import Derived.Test.YtccfnhocjiehnaaGfA
import Derived.Deep.MidRow
namespace Go.Proofs.Ytccfnhocjiehnaa
open Go.RowKit
set_option linter.unusedVariables false
set_option linter.unusedSimpArgs false

def prodF (a : Gf.E) (i : Nat) : Value := vb (Gf.mul a (byteE (i : Int)))
def prodA (a : Gf.E) : Array Value := Array.ofFn (n := 256) fun i => prodF a i.val
theorem prodA_size (a : Gf.E) : (prodA a).size = 256 := by simp [prodA]
theorem prodA_at (a : Gf.E) {i : Nat} (h : i < 256) : (prodA a)[i]? = some (prodF a i) := by
  unfold prodA
  rw [Array.getElem?_ofFn, dif_pos h]
attribute [irreducible] prodA
theorem info88 : (Try.prog.info? 88).map (·.size) = some 256 := by kernel_rfl
theorem zero88 : Try.zeroCells88 = Array.replicate 256 (.int .u8 0) := by kernel_rfl
theorem results_cell_mid {P : Program} {fn : Func} {p : Tmp} {ty : TypeId} (h : fn.results = #[.cell p ty]) (tmps : Array Value) (w : World) (g : Nat) (cs : List Value) (d : TypeDesc)
    (hp : tmps.getD p undef = .pointer (some ⟨g, 0, none⟩)) (hg : w.rangeAt g 0 cs) (hu : P.underlying ty = some d) (hd : d.isRow = true) (hi : (P.info? ty).map (·.size) = some cs.length) :
    (results fn tmps).run P w = .ok (.agg cs.toArray) w := by
  have hp' : tmps[p]?.getD undef = .pointer (some ⟨g, 0, none⟩) := by simpa using hp
  simp [results, h, hp', asAddr, run_loadVar_mid w g 0 ty cs d hg hu hd hi]
theorem prod_loaded {w : World} {a : Gf.E} {g : Nat} {t : TypeId} (h : w.rowIs g t 256 (fun i => prodF a i)) : w.heap[g]? = some (.cells (prodA a) t (0, 0)) := by
  obtain ⟨c, hb, hn, hc⟩ := h
  rw [hb]
  have : c = prodA a := Array.ext_getElem? fun i => by
    by_cases hi : i < 256
    · rw [hc i hi, prodA_at a hi]
    · rw [Array.getElem?_eq_none (by omega), Array.getElem?_eq_none (by rw [prodA_size]; omega)]
  rw [this]
theorem prodA_one (a : Gf.E) : (prodA a).all (·.oneCell') = true := by
  unfold prodA
  rw [Array.all_eq_true_iff_forall_mem]
  intro v hv
  obtain ⟨i, rfl⟩ := Array.mem_ofFn.1 hv
  rfl
theorem setCells_below {B : Nat} {w w1 : World} {b : Nat} (hb : B ≤ b) : ∀ (vs : List Value) (o : Nat) (w1 : World), Below B w w1 → Below B w (w1.setCells b o vs)
  | [], _, _, h => h
  | v :: r, o, w1, h => by
    rw [World.setCells]
    exact setCells_below (w1 := w1) hb r (o + 1) _ (h.setCell hb v)

set_option maxRecDepth 100000 in
set_option maxHeartbeats 1000000 in
theorem products_c (a : Gf.E) (w : World) : Calls Try.prog 57 #[vb a] w fun e w' => e = .returned (.agg (prodA a)) ∧ Below w.heap.size w w' := by
  have HM := Lib.hid (fun (k : Nat) (h : k < 256) w => (show Calls Try.prog 61 #[.int .u8 (a.val : Int), .int .u8 (k : Int)] w fun e w' => e = .returned (prodF a k) ∧ w = w' from by
    have := mul_c a (byteE (k : Int)) w
    have e2 : vb (byteE (k : Int)) = .int .u8 (k : Int) := by unfold vb; rw [byteE_val]; congr 1; omega
    rw [e2] at this
    exact this))
  have h0 : (w.alloc (.cells Try.zeroCells88 88)).rowIs w.heap.size 88 256 (fun i => if i < 0 then prodF a i else vb 0) := by
    refine ⟨_, heap_alloc_new w _, by rw [zero88]; simp, fun i hi => ?_⟩
    rw [zero88]; simp [hi, vb]
  have H0 := Lib.hid h0
  clear h0
  unfold vb
  go_enter Try.func57, Try.ntmps57
  go_wp2_with (fail)
  go_loopg [4] 256 (fun kq v4 wr => ∃ k : Nat, k + kq = 256 ∧ v4 = .int .i64 (k : Int) ∧ Hid (wr.rowIs w.heap.size 88 256 (fun i => if i < k then prodF a i else vb 0) ∧ Below w.heap.size w wr))
  case atStart => exact ⟨0, by omega, rfl, Lib.hid ⟨H0.out, (Below.refl _ _).alloc (Nat.le_refl _) _⟩⟩
  case round =>
    clear H0
    obtain ⟨k, hk, rfl, HR⟩ := hrel
    by_cases hlt : k < 256
    · have hc := HR.out.1.cell hlt
      rw [if_neg (Nat.lt_irrefl k)] at hc
      have hf := HR.out.1.frozen k
      have k1 : (0 : Int) ≤ (k : Int) := by omega
      have k2 : (k : Int) < 256 := by omega
      have HS : Hid ((wr.setCell ⟨w.heap.size, k, none⟩ (prodF a k)).rowIs w.heap.size 88 256 (fun i => if i < k + 1 then prodF a i else vb 0) ∧ Below w.heap.size w (wr.setCell ⟨w.heap.size, k, none⟩ (prodF a k))) :=
        Lib.hid ⟨(HR.out.1.set k _).congr (fun i hi => by
          by_cases e : i = k
          · subst e; simp
          · simp only [e, if_false]
            by_cases h1 : i < k
            · simp [h1, show i < k + 1 by omega]
            · simp [h1, show ¬ i < k + 1 by omega]), HR.out.2.setCell (Nat.le_refl _) _⟩
      have HMk := Lib.hid (HM.out k hlt wr)
      unfold prodF at HMk HS
      unfold vb at hc HMk
      obtain ⟨q, hq⟩ : ∃ q, q = Gf.mul a (byteE (k : Int)) := ⟨_, rfl⟩
      rw [← hq] at HMk HS
      have hs : Lib.hid True.intro = Lib.hid True.intro := rfl
      clear hq hs
      go_wp2_with (go_at_call 61; refine HMk.out.mono ?_; rintro e w' ⟨rfl, rfl⟩)
      go_roundg (256 - (k + 1))
      case measure => omega
      case rel => exact ⟨k + 1, by omega, by go_num, HS⟩
    · obtain rfl : k = 256 := by omega
      have h := HR.out.1.congr (g := fun i => prodF a i) (fun i hi => if_pos hi)
      have hh := prod_loaded h
      have HH := Lib.hid hh
      have HB := Lib.hid HR.out.2
      have ht : wr.there w.heap.size 0 (prodA a).size := fun j hj => by
        rw [prodA_size] at hj
        rw [Nat.zero_add, h.cell hj]
        exact ⟨rfl, h.frozen j⟩
      have HT := Lib.hid ht
      clear h hh HR hk ht
      go_wp2_with (first | (refine wpList_load_row rfl 88 (.tmp 2) rfl w.heap.size (by rfl) 88 (prodA a) (0, 0) (.array 256 5) HH.out Try.underlying88 (by rfl) (by rw [info88, prodA_size]) ?_) | (refine wpList_store_mid rfl 88 (.tmp 2) (.tmp 14) rfl w.heap.size 0 (prodA a) (by rfl) (by rfl) HT.out (by rw [info88, prodA_size]) (prodA_one a) ?_))
      have hg := World.rangeAt_setCells_same wr w.heap.size 0 (prodA a).toList (by rw [Array.length_toList]; exact HT.out)
      refine bodyPost_ret (v := .agg (prodA a)) ?_ rfl ⟨rfl, setCells_below (w1 := wr) (Nat.le_refl _) _ _ _ HB.out⟩
      have hr := fun tm h => results_cell_mid (fn := Try.f57) (P := Try.prog) (p := 2) (ty := 88) rfl tm _ w.heap.size (prodA a).toList (.array 256 5) h hg Try.underlying88 rfl (by rw [info88, Array.length_toList, prodA_size])
      rw [Array.toArray_toList] at hr
      exact hr _ rfl
end Go.Proofs.Ytccfnhocjiehnaa
