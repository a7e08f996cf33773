/- slices.Clone of bytes; rs.Split. -/
import Derived.Test.YtccfnhocjiehnaaCopy
import Derived.Test.YtccfnhocjiehnaaRefRows
import Derived.Test.YtccfnhocjiehnaaRsNew
import Derived.Laws.CopyOwn
import Derived.IntWalk
import Derived.Lib.SliceRun
import Derived.Deep.MidRow
namespace Go.Proofs.Ytccfnhocjiehnaa
open Go.RowKit
set_option linter.unusedVariables false
set_option linter.unusedSimpArgs false

set_option maxHeartbeats 1000000 in
theorem clone_c (A : Option Addr) (n c : Nat) (f : Nat → Gf.E) (w : World) (ha : RdB w A n f) (hn : n ≤ 1048576) :
    Calls Try.prog 37 #[.slice A n c] w fun e w' => ∃ v, e = .returned v ∧ w'.ownsRow w.heap.size 5 1 v n (newsB n f) ∧ Below w.heap.size w w' := by
  cases A with
  | none =>
    have h0 : n = 0 := Decidable.byContradiction fun hne => by
      obtain ⟨ad, e, _⟩ := ha (Nat.pos_of_ne_zero hne)
      cases e
    subst h0
    clear ha
    have hnil := fun w => Lib.run_eql_slice_nil (P := Try.prog) w 22 5 none 0 c 0 0 Try.underlying22
    go_enter Try.func37, Try.ntmps37
    go_wp2
    go_ret
    exact ⟨_, rfl, World.ownsRow_nil _ _ _ _, Below.refl _ _⟩
  | some ad =>
    have HA := Lib.hid (RdF.below ha (box_below w (.cells #[] 5)))
    clear ha
    have hnil := fun w => Lib.run_eql_slice_nil (P := Try.prog) w 22 5 (some ad) n c 0 0 Try.underlying22
    go_enter Try.func37, Try.ntmps37
    go_wp2_with (at_builtin; refine wpList_append_row rfl (.tmp 5) (.tmp 6) rfl w.heap.size _ 0 [] rfl (own_empty w _) (some ad) n c f rfl HA.out (by omega) (by omega) (by simp) ?_; intro v1 w1 hown1 hgrow1; replace hown1 := Lib.hid hown1; replace hgrow1 := Lib.hid hgrow1)
    go_ret
    obtain ⟨A', c', rfl, h1, h2⟩ := row_copied hown1.out hgrow1.out
    exact ⟨_, rfl, h1, h2⟩

/-- How long shards of n bytes are. -/
def wide (k n : Nat) : Nat := max 1 ((n + k - 1) / k)
theorem max_wide {q0 q : Nat} (h : q = max 1 q0) : (if (q0 : Int) > 1 then (q0 : Int) else 1) = (q : Int) := by
  subst h
  split <;> omega
theorem wide_pos (k n : Nat) : 1 ≤ wide k n := Nat.le_max_left _ _
theorem wide_fits {k : Nat} (n : Nat) (hk : 1 ≤ k) : n ≤ k * wide k n := by
  have h1 : k * ((n + k - 1) / k) ≤ k * wide k n := Nat.mul_le_mul_left k (Nat.le_max_right _ _)
  have h2 := Nat.div_add_mod (n + k - 1) k
  have h3 := Nat.mod_lt (n + k - 1) (show k > 0 by omega)
  omega
theorem wide_le {k : Nat} (n : Nat) (hk : 1 ≤ k) : k * wide k n ≤ n + k := by
  unfold wide
  have h2 := Nat.div_add_mod (n + k - 1) k
  rcases Nat.le_total 1 ((n + k - 1) / k) with h | h
  · rw [Nat.max_eq_right h]; omega
  · rw [Nat.max_eq_left h]; omega
def splitF (q n : Nat) (d : Nat → Gf.E) : Nat → Nat → Gf.E := fun i j => if i * q + j < n then d (i * q + j) else 0

/-- What copy leaves: the data, noughts behind it. -/
theorem split_row {w : World} {g N n : Nat} {d : Nat → Gf.E} (hn : n ≤ N) (h : w.heap[g]? = some (.cells (splice (madeCells #[.int .u8 0] N).toList 0 (newsB n d)).toArray 5 (0, 0))) : RowAt w g 5 N (fun j => vb (if j < n then d j else 0)) := by
  have hl : (madeCells #[.int .u8 0] N).toList.length = N := by simp [madeCells]
  refine ⟨_, h, ?_, fun i hi => ?_⟩
  · rw [List.size_toArray, length_splice _ _ _ (by rw [newsB_len, hl]; omega), hl]
    exact Nat.le_refl _
  · rw [List.getElem?_toArray]
    unfold splice
    rw [List.take_zero, List.nil_append, Nat.zero_add]
    by_cases hin : i < n
    · rw [List.getElem?_append_left (by rw [newsB_len]; exact hin), newsB_at hin]
      simp only [if_pos hin]
    · rw [List.getElem?_append_right (by rw [newsB_len]; omega), newsB_len, List.getElem?_drop]
      simp only [if_neg hin]
      rw [show n + (i - n) = i by omega]
      rw [Array.getElem?_toList]
      obtain ⟨c, hb, hc1, hc2⟩ := World.rowIs_made (default : World) (.int .u8 0) N 5
      rw [heap_alloc_new] at hb
      injection hb with hb
      injection hb with hb _
      rw [hb, hc2 i hi]; rfl
theorem RdF.mid {w : World} {g N a q : Nat} {t : TypeId} {f : Nat → Value} (h : RowAt w g t N f) (ha : a + q ≤ N) : RdF w (some ⟨g, a, none⟩) q (fun j => f (a + j)) := fun _ => ⟨_, rfl, fun j hj => by
  rw [Addr.add_mid]; exact h.cell (by omega)⟩
theorem split_part {w : World} {g N n q i : Nat} {d : Nat → Gf.E} (h : RowAt w g 5 N (fun j => vb (if j < n then d j else 0))) (hi : i * q + q ≤ N) : RdB w (some ⟨g, i * q, none⟩) q (splitF q n d i) :=
  RdF.mid h hi

set_option maxRecDepth 100000 in
set_option maxHeartbeats 4000000 in
theorem split_c (b k m : Nat) (D : Option Addr) (n dc : Nat) (d : Nat → Gf.E) (w : World) (hc : CodeR w b k m) (hk : 1 ≤ k) (hkm : k + m ≤ 255) (hd : RdB w D n d) (hn : n ≤ 65536) :
    Calls Try.prog 18 #[.pointer (some ⟨b, 0, none⟩), .slice D n dc] w fun e w' => ∃ v As cs w1, e = .returned v ∧ Below w.heap.size w w1 ∧ CopyR w1 w' k v As cs (fun _ => wide k n) (splitF (wide k n) n d) := by
  obtain ⟨h1, h2, _⟩ := hc
  obtain ⟨i56, hi, hz0, hz1, hz2⟩ := info_parts info56
  have e1 : IntKind.i64.wrap ((n : Int) + (k : Int)) = (n : Int) + (k : Int) := by rw [IntKind.wrap_i64]; omega
  have e2 : IntKind.i64.wrap ((n : Int) + (k : Int) - 1) = (n : Int) + (k : Int) - 1 := by rw [IntKind.wrap_i64]; omega
  obtain ⟨q0, hq0⟩ : ∃ q0, q0 = (n + k - 1) / k := ⟨_, rfl⟩
  have hq0' : q0 ≤ n + k - 1 := by rw [hq0]; exact Nat.div_le_self _ _
  obtain ⟨q, hq⟩ : ∃ q, q = wide k n := ⟨_, rfl⟩
  have hq1 : 1 ≤ q := by rw [hq]; exact wide_pos k n
  have hq2 := wide_le n hk
  have hq3 := wide_fits n hk
  rw [← hq] at hq2 hq3
  obtain ⟨N, hN⟩ : ∃ N, N = k * q := ⟨_, rfl⟩
  rw [← hN] at hq2 hq3
  have HQ0 := Lib.hid hq0
  have HN := Lib.hid hN
  have HQ := Lib.hid hq
  clear hq0 hN
  rw [← hq]
  clear hq
  have hmk := run_make_row' (P := Try.prog) 22 5 (.int .u8 0) 1 Try.underlying22 info5 rfl .i64 .i64 N (by omega) (by omega)
  have hdiv : wrap64 (((n + k - 1 : Nat) : Int) / (k : Int)) = (q0 : Int) := by
    rw [show (((n + k - 1 : Nat) : Int) / (k : Int)) = (q0 : Int) by rw [HQ0.out]; rfl]
    unfold wrap64; omega
  have hdiv2 : ((n : Int) + (k : Int) - 1) / (k : Int) = (q0 : Int) := by
    rw [HQ0.out, show (n : Int) + (k : Int) - 1 = ((n + k - 1 : Nat) : Int) by clear hdiv; omega]; rfl
  have hmx : ∀ (w : World) (ts : Array TypeId) (t : TypeId), (Builtin.max_ ts t #[.int .i64 1, .int .i64 (q0 : Int)]).run Try.prog w = .ok (.int .i64 (q : Int)) w := fun w ts t => by
    have e := max_wide (q0 := q0) (q := q) (by rw [HQ.out, HQ0.out]; rfl)
    rw [run_max_int2, e]
  have hmul : (k : Int) * (q : Int) = (N : Int) := by rw [HN.out, Int.natCast_mul]
  have hN63 : N ≤ 70000 := by clear hdiv hdiv2 hmul; omega
  have HN63 := Lib.hid hN63
  have HQN : Hid (n ≤ N) := Lib.hid hq3
  have k1 : (1 : Int) ≤ (k : Int) := by clear hdiv hdiv2 hmul; omega
  have HD := Lib.hid hd
  clear hd
  go_enter Try.func18, Try.ntmps18
  go_wp2_with (fail)
  go_quiet (fail)
  have hcur : ∀ nq : Nat, ((w.drewN nq).alloc (.cells (madeCells #[.int .u8 0] N) 5)).heap[w.heap.size]? = some (.cells (madeCells #[.int .u8 0] N).toList.toArray 5 (0, 0)) := fun nq => by rw [Array.toArray_toList]; exact heap_alloc_new (w.drewN nq) _
  have HCUR := Lib.hid hcur
  have hcl : (madeCells #[.int .u8 0] N).toList.length = N := by simp [madeCells]
  have HCL := Lib.hid hcl
  clear hcur hcl
  have HDN := fun W (hb : Below w.heap.size w W) => RdF.below HD.out hb
  replace HDN := Lib.hid HDN
  go_wp2_with (first | (refine wpList_copy_splice (o := ⟨some 32, _, _, _, _, _⟩) rfl (.tmp 30) (.tmp 31) 22 22 rfl 5 Try.underlying22 (by kernel_rfl) (some ⟨w.heap.size, 0, none⟩) D N N n dc (by rfl) (by rfl) w.heap.size 0 (madeCells #[.int .u8 0] N).toList 5 (HCUR.out _) (newsB n d) (by rw [newsB_len]; exact (Nat.min_eq_left HQN.out).symm) ?hpos (by rw [newsB_len, HCL.out, Nat.zero_add]; exact HQN.out) (newsB_one n d) w.heap.size w (by exact ((below_drewN (Below.refl _ _) _).alloc (Nat.le_refl _) _)) (Nat.le_refl _) ?_))
  case hpos =>
    intro h0
    simp only [newsB_len] at h0
    obtain ⟨ad, hD, hc⟩ := HDN.out ((w.drewN nq).alloc (.cells (madeCells #[.int .u8 0] N) 5)) ((below_drewN (Below.refl _ _) _).alloc (Nat.le_refl _) _) h0
    refine ⟨ad, hD, fun j v hv => ?_⟩
    have hj : j < n := by
      have := (List.getElem?_eq_some_iff.1 hv).1
      rwa [newsB_len] at this
    rw [newsB_at hj] at hv
    injection hv with hv
    rw [← hv]; exact hc j hj
  intro w2 HG2 hB2
  have HR := Lib.hid (split_row HQN.out HG2.out)
  have HB := Lib.hid hB2
  have g1 := cell_below hB2 h1
  have hst := CopyR.start w2 w2 (fun _ => q) (splitF q n d) (Below.refl _ _)
  have HST := Lib.hid hst
  clear HG2 hB2 h1 h2 hst HCUR HDN hmk hmul hmx hdiv hdiv2 e1 e2
  have k2 : (k : Int) ≤ 255 := by omega
  go_wp2_with (fail)
  go_loopg [7, 37] k (fun kq v7 v37 wr => ∃ i : Nat, i + kq = k ∧ v37 = .int .i64 (i : Int) ∧ ∃ As cs, Hid (CopyR w2 wr i v7 As cs (fun _ => q) (splitF q n d)))
  case atStart => exact ⟨0, by omega, rfl, _, _, HST⟩
  case round =>
    clear HST
    obtain ⟨i, hi0, rfl, As, cs, HI⟩ := hrel
    by_cases hlt : i < k
    · have hbw := HI.out.below
      have i1 : (i : Int) < (k : Int) := by omega
      have i0 : (0 : Int) ≤ (i : Int) := by omega
      obtain ⟨a, ha⟩ : ∃ a, a = i * q := ⟨_, rfl⟩
      have haN : a + q ≤ N := by
        rw [ha, HN.out, ← Nat.succ_mul]
        exact Nat.mul_le_mul_right q hlt
      have HPART := Lib.hid (show RdB wr (some ⟨w.heap.size, a, none⟩) q (splitF q n d i) by rw [ha]; rw [ha] at haN; exact split_part (HR.out.below hbw) haN)
      have hma : (i : Int) * (q : Int) = (a : Int) := by rw [ha, Int.natCast_mul]
      have hmb : ((i : Int) + 1) * (q : Int) = (a : Int) + (q : Int) := by rw [Int.add_mul, Int.one_mul, hma]
      have hq0 : (0 : Int) < (q : Int) := by omega
      have haN' : (a : Int) + (q : Int) ≤ (N : Int) := by omega
      clear ha hbw
      have hq65 : q ≤ 70000 := by omega
      go_wp2_with (first | (go_at_call 37; refine (clone_c (some ⟨w.heap.size, a, none⟩) q (N - a) (splitF q n d i) _ HPART.out (by omega)).mono ?_; rintro e w3 ⟨v3, rfl, ho3, hb3⟩; obtain ⟨A3, c3, rfl, _⟩ := own_form ho3; replace ho3 := Lib.hid ho3; replace hb3 := Lib.hid hb3) | (at_builtin; refine wpList_append_own _ rfl (.tmp 40) (.tmp 51) 28 rfl w2.heap.size 22 i56 (.slice none 0 0) 1 24 Try.underlying28 hi hz0 hz1 hz2 rfl (by decide) _ i _ rfl (HI.out.ownUp hb3.out _) _ 1 1 [.slice A3 q c3] rfl rfl (one_news _ _ _ rfl) (one_one _ rfl) (by unfold maxLen; omega) (by omega) (by have := HI.out.below.size; have := hb3.out.size; simp; omega) ?_; intro v2 w4 hown2 hgrow2 hz; clear hz; have HS := Lib.hid (HI.out.step hb3.out ho3.out hown2 hgrow2); clear hown2 hgrow2))
      obtain ⟨As2, cs2, hS⟩ := HS.out
      replace hS := Lib.hid hS
      clear HS hma hmb
      go_roundg (k - (i + 1))
      case measure => omega
      case rel => exact ⟨i + 1, by omega, by go_num, _, _, hS⟩
    · obtain rfl : i = k := by omega
      go_wp2_with (fail)
      go_ret
      exact ⟨_, As, cs, w2, rfl, HB.out, HI.out⟩
end Go.Proofs.Ytccfnhocjiehnaa
