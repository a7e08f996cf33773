/- RsAny holds: any m of the shards may be lost; of one more not. No condition. -/
import Derived.Test.YtccfnhocjiehnaaOpen
import Derived.Test.YtccfnhocjiehnaaRsKnown
import Derived.Test.YtccfnhocjiehnaaRsMend
import Derived.Test.YtccfnhocjiehnaaInverse
import Derived.Test.YtccfnhocjiehnaaLost
import Derived.Test.YtccfnhocjiehnaaDecode
namespace Go.Proofs.Ytccfnhocjiehnaa.rsAny
open Go.ChangeShapes Go.WideShapes Go.ChangeAt Go.RowKit
open Go.ChangeMaps (open_string shut_string)
set_option linter.unusedVariables false
set_option linter.unusedSimpArgs false

/-- The lengths of rows, less those of Z. -/
def lostL (q : Nat) (Z : List Nat) (i : Nat) : Nat := if i ∈ Z then 0 else q
theorem lostL_or (q : Nat) (Z : List Nat) (i : Nat) : lostL q Z i = 0 ∨ lostL q Z i = q := by
  unfold lostL
  by_cases h : i ∈ Z
  · exact .inl (if_pos h)
  · exact .inr (if_neg h)
theorem lost_rdm {w w1 : World} {gl s q i : Nat} {b3 cs : Nat → Nat} {E : Nat → Nat → Gf.E} {Z : List Nat} (hrow : ∀ i, i < s → q ≤ cs i ∧ RowAt w (b3 i) 5 q (fun j => vb (E i j))) (h : LostR w w1 gl s q b3 cs Z i) : RdM w1 (some ⟨gl, 0, none⟩) s (lostL q Z) E :=
  lost_rd (g := gl) (Ar := fun i => if i ∈ Z then none else some ⟨b3 i, 0, none⟩) (Cr := fun i => if i ∈ Z then 0 else cs i) hrow h.below (fun i hi => by
    unfold lostL
    by_cases e : i ∈ Z <;> simp [e]) (RdF.congr h.row.rd (fun i hi => by
    unfold lostL lostV
    by_cases e : i ∈ Z <;> simp [e]))
theorem lost_full {s k m q i : Nat} {Z : List Nat} (hq : 1 ≤ q) (hs : s = k + m) (hl : Z.length = i) (hi : i ≤ m) : (rowsTo (lostL q Z) k s).length = k :=
  rows_full (M := Z) (fun i _ h0 => Decidable.byContradiction fun hn => by unfold lostL at h0; rw [if_neg hn] at h0; omega) (by omega)
theorem lost_few {s k m q : Nat} {Z : List Nat} (hk : 1 ≤ k) (hs : s = k + m) (hnd : Z.Nodup) (hlt : ∀ z ∈ Z, z < s) (hl : Z.length = m + 1) : (rowsTo (lostL q Z) k s).length < k := by
  have h1 := pres_count (lostL q Z) s
  have h2 := len_sub Z ((List.range s).filter (noneB (lostL q Z))) hnd (fun a ha => by
    rw [List.mem_filter, List.mem_range]
    exact ⟨hlt a ha, decide_eq_true (show lostL q Z a = 0 by unfold lostL; exact if_pos ha)⟩)
  unfold rowsTo
  rw [List.length_take]
  omega
theorem lost_max {s q : Nat} {Z : List Nat} (hl : Z.length < s) : q ≤ maxL (lostL q Z) s := by
  have h : ∃ u, u < s ∧ u ∉ Z := Decidable.byContradiction fun hn => by
    have h1 := len_sub (List.range s) Z List.nodup_range (fun a ha => Decidable.byContradiction fun h2 => hn ⟨a, List.mem_range.1 ha, h2⟩)
    rw [List.length_range] at h1
    omega
  obtain ⟨u, hu, hz⟩ := h
  have h1 := maxL_le (lostL q Z) hu
  unfold lostL at h1 ⊢
  rwa [if_neg hz] at h1
/-- Data, put together, are the data. -/
theorem dec_data {L : Nat → Nat} {G D : Nat → Nat → Gf.E} {k q n s : Nat} {d : Nat → Gf.E} (hG : ∀ i, i < s → 0 < L i → ∀ x, x < q → G i x = encF k q n d i x) (hks : k ≤ s) (hlen : (rowsTo L k s).length = k) (h : WholeD L G k s D) (hq : 1 ≤ q) (hn : n ≤ k * q) {t : Nat} (ht : t < n) : conF q D t = d t := by
  have h1 : t / q < k := by rw [Nat.div_lt_iff_lt_mul (by omega)]; omega
  have h2 : t % q < q := Nat.mod_lt _ (by omega)
  unfold conF
  rw [whole_data hG hks hlen h _ h1 _ h2]
  unfold splitF
  have h3 : t / q * q + t % q = t := by rw [Nat.mul_comm]; exact Nat.div_add_mod t q
  rw [h3, if_pos ht]
/-- Shards that were made fit. -/
theorem fits {k m q n : Nat} {d : Nat → Gf.E} : sameB m m (fun _ => q) (fun _ => q) (timesF (cauE k) (encF k q n d) k) (fun i => encF k q n d (k + i)) = true :=
  sameB_true ⟨rfl, fun i _ => ⟨rfl, fun j _ => by
    unfold encF
    rw [if_neg (by omega), show k + i - k = i by omega]
    exact sumE_congr fun a ha => by simp only [if_pos ha]⟩⟩
/-- Decode of too few. -/
theorem decode_few (b k m s : Nat) (A : Option Addr) (c q z : Nat) (L : Nat → Nat) (G : Nat → Nat → Gf.E) (w : World) (hs : s = k + m) (hc : CodeR w b k m) (hk : 1 ≤ k) (hkm : s ≤ 255) (ha : RdM w A s L G) (hsc : s ≤ c) (hl : ∀ i, i < s → L i = 0 ∨ L i = q) (hq1 : 1 ≤ q) (hq2 : q ≤ 1048576) (hf : alikeB s (k + m) L = true) (hz : z ≤ 1073741824)
    (hfew : (rowsTo L k s).length < k) (hbig : 2 ≤ k → z ≤ k * maxL L s) : ∃ x : Int, ((k = 1 ∧ x = 1) ∨ x = 16) ∧ Calls Try.prog 14 #[.pointer (some ⟨b, 0, none⟩), .int .i64 z, .slice A s c] w fun e w' => e = .returned (.tuple #[.slice none 0 0, .int .i64 x]) ∧ Below w.heap.size w w' := by
  by_cases h : z ≤ k * maxL L s
  · refine ⟨16, .inr rfl, (decode_yes b k m s A c q z L G w hs hc hk hkm ha hsc hl hq1 hq2 hf h).mono ?_⟩
    rintro e w' (⟨_, rfl, hb⟩ | ⟨hx, _⟩)
    · exact ⟨rfl, hb⟩
    · omega
  · refine ⟨1, .inl ⟨?_, rfl⟩, decode_no b k m s A c z L G w hc hk (by omega) ha (by omega) (fun i hi => by rcases hl i hi with h | h <;> omega) hz (fun _ => by omega)⟩
    by_cases h2 : 2 ≤ k
    · exact absurd (hbig h2) h
    · omega

set_option maxRecDepth 100000 in
set_option maxHeartbeats 4000000 in
theorem walk_out (k m : Int) (A : Option Addr) (n ac : Nat) (t : Int) (A4 : Option Addr) (l4 c4 : Nat) (w : World) (hn : n ≤ 4611686018427387904) (h : k < 1 ∨ (1 ≤ k ∧ m < 0) ∨ (1 ≤ k ∧ 0 ≤ m ∧ 12 < k) ∨ (1 ≤ k ∧ 0 ≤ m ∧ k ≤ 12 ∧ 12 < m) ∨ (1 ≤ k ∧ 0 ≤ m ∧ k ≤ 12 ∧ m ≤ 12 ∧ 2000 < n)) :
    Calls Try.prog 5 #[.int .i64 k, .int .i64 m, .slice A n ac, .int .i64 t, .slice A4 l4 c4] w fun e w' => e = .returned (.bool true) ∧ Below w.heap.size w w' := by
  have hnot : ∀ (x : Bool) (w : World), (Op.unary .not (.bool x)).run Try.prog w = .ok (.bool (!x)) w := fun _ _ => rfl
  have e1 : 2000 < n → (2000 : Int) < (n : Int) := fun h => by omega
  rcases h with h | ⟨h1, h⟩ | ⟨h1, h2, h⟩ | ⟨h1, h2, h3, h⟩ | ⟨h1, h2, h3, h4, h⟩
  case inr.inr.inr.inr =>
    have h' := e1 h
    clear e1 h
    go_enter Try.func5, Try.ntmps5
    go_wp2_with (go_at_call 7; refine (rsknown_c _).mono ?_; rintro e w1 ⟨rfl, hb⟩; replace hb := Lib.hid hb)
    go_ret
    exact ⟨rfl, hb.out⟩
  all_goals
    clear e1
    go_enter Try.func5, Try.ntmps5
    go_wp2_with (go_at_call 7; refine (rsknown_c _).mono ?_; rintro e w1 ⟨rfl, hb⟩; replace hb := Lib.hid hb)
    go_ret
    exact ⟨rfl, hb.out⟩

set_option maxRecDepth 100000 in
set_option maxHeartbeats 16000000 in
theorem walk_in (k m : Nat) (A : Option Addr) (n ac : Nat) (d : Nat → Gf.E) (t : Int) (A4 : Option Addr) (l4 c4 : Nat) (f4 : Nat → Int) (w : World) (hk : 1 ≤ k) (hk2 : k ≤ 12) (hm2 : m ≤ 12) (hn : n ≤ 2000) (hac : n ≤ ac) (ha : RdB w A n d) (ht : -9223372036854775808 ≤ t ∧ t ≤ 9223372036854775807)
    (ha4 : RdF w A4 l4 (fun j => .int .i64 (f4 j))) (hf4 : ∀ j, j < l4 → -9223372036854775808 ≤ f4 j ∧ f4 j ≤ 9223372036854775807) :
    Calls Try.prog 5 #[.int .i64 k, .int .i64 m, .slice A n ac, .int .i64 t, .slice A4 l4 c4] w fun e w' => e = .returned (.bool true) ∧ Below w.heap.size w w' := by
  have hnot : ∀ (x : Bool) (w : World), (Op.unary .not (.bool x)).run Try.prog w = .ok (.bool (!x)) w := fun _ _ => rfl
  have hne : ∀ (g : Nat) (W : World), (binOp .eql 24 (.pointer (some ⟨g, 0, none⟩)) (.pointer none)).run Try.prog W = .ok (.bool false) W := fun _ _ => by simp [go_sem]
  have k1 : (1 : Int) ≤ (k : Int) := by omega
  have k2 : (k : Int) ≤ 12 := by omega
  have m1 : (0 : Int) ≤ (m : Int) := by omega
  have m2 : (m : Int) ≤ 12 := by omega
  have n1 : (n : Int) ≤ 2000 := by omega
  have HA := Lib.hid ha
  have HA4 := Lib.hid ha4
  have HF4 := Lib.hid hf4
  obtain ⟨s, hs⟩ : ∃ s, s = k + m := ⟨_, rfl⟩
  obtain ⟨q, hq⟩ : ∃ q, q = wide k n := ⟨_, rfl⟩
  have q1 : 1 ≤ q := by rw [hq]; exact wide_pos k n
  have q2 : q ≤ 2012 := by
    have h1 := wide_le n hk
    have h2 : 1 * wide k n ≤ k * wide k n := Nat.mul_le_mul_right _ hk
    omega
  have q3 : n ≤ k * q := by rw [hq]; exact wide_fits n hk
  have s1 : 1 ≤ s := by omega
  have s2 : s ≤ 24 := by omega
  have s3 : k ≤ s := by omega
  have HE := Lib.hid (fun (cb : Nat) (W : World) (hC : CodeR W cb k m) (hd : RdB W A n d) => encode_c cb k m A n ac d W hC hk (by omega) hd (by omega))
  rw [← hs, ← hq] at HE
  have HSK := Lib.hid hs
  have HQ3 := Lib.hid q3
  have HT := Lib.hid ht
  have c0 : ((s : Int) != (k : Int) + (m : Int)) = false := by rw [bne_eq_false_iff_eq]; omega
  clear ha hs hq q3 ht ha4 hf4
  go_enter Try.func5, Try.ntmps5
  go_wp2_with (first | (go_at_call 7; refine (rsknown_c _).mono ?_; rintro e w1 ⟨rfl, hb⟩; replace hb := Lib.hid hb) | (go_at_call 8; refine (new_yes k m _ hk (by omega)).mono ?_; rintro e w2 ⟨cb, rfl, hC, hcb, hb2⟩; replace hC := Lib.hid hC; replace hb2 := Lib.hid (below_then hb.out hb.out.size hb2)))
  refine (HE.out cb _ hC.out (RdF.below HA.out hb2.out)).mono ?_
  rintro e w3 ⟨v, rfl, g3, p3, b3, rfl, hp3, hX⟩
  replace hX := Lib.hid (show OwnMat w2 w3 g3 s q b3 (encF k q n d) from hX)
  have HW3 := Lib.hid (below_then hb2.out hb2.out.size hX.out.2.2.2.2)
  obtain ⟨cs, h1, h2⟩ := hX.out.1
  have HR1 := Lib.hid h1
  have HR2 := Lib.hid h2
  have HC3 := Lib.hid (hC.out.below hX.out.2.2.2.2)
  clear h1 h2 HE
  obtain ⟨r, hr⟩ : ∃ r, t.tmod ((m : Int) + 1) = r := ⟨_, rfl⟩
  have hr1 : r < (m : Int) + 1 := by rw [← hr]; exact Int.tmod_lt_of_pos t (by omega)
  have hr2 : -((m : Int) + 1) < r := by
    have h1 := Int.tmod_lt_of_pos (-t) (b := (m : Int) + 1) (by omega)
    rw [Int.neg_tmod, hr] at h1
    omega
  have mz : ¬ (m : Int) + 1 = 0 := by omega
  by_cases hr0 : r < 0
  · obtain ⟨a, ha⟩ : ∃ a : Nat, -r = (a : Int) := ⟨(-r).toNat, by omega⟩
    obtain rfl : r = -(a : Int) := by omega
    have ham : a ≤ m := by omega
    have ha2 : (0 : Int) - -(a : Int) = (a : Int) := by omega
    clear ha
    go_wp2_with (fail)
    clear hr hr0 hr1 hr2 mz
    refine (lost_c g3 p3 s q b3 cs a A4 l4 c4 f4 w3 HR1.out (RdF.below HA4.out HW3.out) HF4.out s1 (by omega) q1 (by have := HSK.out; omega)).mono ?_
    rintro e w4 ⟨gl, cl, Z, rfl, hcl, hL⟩
    have HCL := Lib.hid hcl
    have HL := Lib.hid hL
    have HLL := Lib.hid (lost_rdm HR2.out hL)
    have HFU := Lib.hid (lost_full (k := k) (m := m) q1 HSK.out hL.len ham)
    have HAK := Lib.hid (show alikeB s (k + m) (lostL q Z) = true from by rw [← HSK.out]; exact alike_of (q := q) (fun i hi => lostL_or q Z i))
    have HDE := Lib.hid (decode_yes cb k m s (some ⟨gl, 0, none⟩) cl q n (lostL q Z) (encF k q n d) w4 HSK.out (HC3.out.below hL.below) hk (by omega) HLL.out hcl (fun i hi => lostL_or q Z i) q1 (by omega) HAK.out (by
      have h1 := lost_max (q := q) (s := s) (Z := Z) (by rw [hL.len]; have := HSK.out; omega)
      have h2 : k * q ≤ k * maxL (lostL q Z) s := Nat.mul_le_mul_left _ h1
      have := HQ3.out
      omega))
    clear hL hcl
    go_wp2_with (fail)
    refine HDE.out.mono ?_
    rintro e w5 (⟨hx, _⟩ | ⟨_, gd, rfl, hgd, D, hWD, hrow, hb5⟩)
    · exact absurd hx (by rw [HFU.out]; exact Nat.lt_irrefl k)
    have HWD := Lib.hid hWD
    have HROW := Lib.hid hrow
    have HB5 := Lib.hid hb5
    have HRE := Lib.hid (repair_yes cb k m s (some ⟨gl, 0, none⟩) cl q (lostL q Z) (encF k q n d) w5 HSK.out ((HC3.out.below HL.out.below).below hb5) hk (by omega) (HLL.out.below hb5) HCL.out (fun i hi => lostL_or q Z i) q1 (by omega) HAK.out)
    clear hWD hrow hb5 HDE hgd
    go_wp2_with (fail)
    refine HRE.out.mono ?_
    rintro e w6 (⟨hx, _⟩ | ⟨_, va, D2, rfl, hWD2, hN⟩)
    · exact absurd hx (by rw [HFU.out]; exact Nat.lt_irrefl k)
    have hEa := rep_enc (L := lostL q Z) (G := encF k q n d) (q := q) (n := n) (d := d) (fun i _ _ x _ => rfl) (by omega) HFU.out hWD2
    obtain ⟨ga, ca', ba, rfl, hca, hMa⟩ := hN.congr (fun i x hi hx => hEa i hi x hx)
    have HMA := Lib.hid hMa
    have HB6 := Lib.hid (below_then HL.out.below HL.out.below.size (below_then HB5.out HB5.out.size hMa.2.2.2.2))
    have HS1 := Lib.hid (same_c (some ⟨ga, 0, none⟩) (some ⟨g3, 0, none⟩) s s ca' p3 (fun _ => q) (fun _ => q) (encF k q n d) (encF k q n d) w6 hMa.1.rd (hX.out.1.rd.below HB6.out) (by omega) (by omega))
    rw [sameB_true ⟨rfl, fun _ _ => ⟨rfl, fun _ _ => rfl⟩⟩] at HS1
    have hcv1 : (convert 22 9 (.slice (some ⟨gd, 0, none⟩) n n)).run Try.prog w6 = .ok (.string (strE n d)) w6 := by
      have h : RdB w6 (some ⟨gd, 0, none⟩) n d := RdF.congr (HROW.out.below hMa.2.2.2.2).rd (fun j hj => by rw [dec_data (fun i _ _ x _ => rfl) (by omega) HFU.out HWD.out q1 HQ3.out hj])
      exact run_conv_bytes Try.underlying22 Try.underlying5 Try.underlying9 h
    have hcv2 : (convert 22 9 (.slice A n ac)).run Try.prog w6 = .ok (.string (strE n d)) w6 := run_conv_bytes Try.underlying22 Try.underlying5 Try.underlying9 (RdF.below (RdF.below HA.out HW3.out) HB6.out)
    have HCA := Lib.hid hca
    have HCK := Lib.hid (fun w (hb : Below w6.heap.size w6 w) => by
      have h := check_yes cb k m (some ⟨ga, 0, none⟩) ca' q (encF k q n d) w ((HC3.out.below HB6.out).below hb) hk (by omega) (by rw [← HSK.out]; exact HMA.out.1.rd.below hb) (by rw [← HSK.out]; exact HCA.out) q1 (by omega)
      rw [fits, ← HSK.out] at h
      exact h)
    clear hWD2 hN hEa hMa HRE hca
    go_wp2_with (first | ((with_reducible refine HS1.out.mono ?_); rintro e w7 ⟨rfl, hd7⟩; replace hd7 := Lib.hid hd7; have hcv3 := trivial) | ((with_reducible refine (HCK.out _ hd7.out.below).mono ?_); rintro e w8 ⟨rfl, hb8⟩; replace hb8 := Lib.hid hb8))
    have HB8 := Lib.hid (below_then HB6.out HB6.out.size (below_then hd7.out.below hd7.out.below.size hb8.out))
    have hl2 := lost_c g3 p3 s q b3 cs (m + 1) A4 l4 c4 f4 w8 (HR1.out.below HB8.out) (RdF.below (RdF.below HA4.out HW3.out) HB8.out) HF4.out s1 (by omega) q1 (by have := HSK.out; omega)
    simp only [Int.natCast_add, Int.natCast_one] at hl2
    refine hl2.mono ?_
    rintro e w9 ⟨gm, cm, Y, rfl, hcm, hM⟩
    have HCM := Lib.hid hcm
    have HM := Lib.hid hM
    have HLM := Lib.hid (lost_rdm (fun i hi => ⟨(HR2.out i hi).1, (HR2.out i hi).2.below HB8.out⟩) hM)
    have HFE := Lib.hid (lost_few (q := q) hk HSK.out hM.nodup hM.lt hM.len)
    have HAL := Lib.hid (show alikeB s (k + m) (lostL q Y) = true from by rw [← HSK.out]; exact alike_of (q := q) (fun i hi => lostL_or q Y i))
    obtain ⟨x, hx, hDF⟩ := decode_few cb k m s (some ⟨gm, 0, none⟩) cm q n (lostL q Y) (encF k q n d) w9 HSK.out ((HC3.out.below HB8.out).below hM.below) hk (by omega) HLM.out hcm (fun i hi => lostL_or q Y i) q1 (by omega) HAL.out (by omega) HFE.out (fun h2k => by
      have h1 := lost_max (q := q) (s := s) (Z := Y) (by rw [hM.len]; have := HSK.out; omega)
      have h2 : k * q ≤ k * maxL (lostL q Y) s := Nat.mul_le_mul_left _ h1
      have := HQ3.out
      omega)
    have HDF := Lib.hid hDF
    have HRF := Lib.hid (fun w (hb : Below w9.heap.size w9 w) => repair_yes cb k m s (some ⟨gm, 0, none⟩) cm q (lostL q Y) (encF k q n d) w HSK.out (((HC3.out.below HB8.out).below HM.out.below).below hb) hk (by omega) (HLM.out.below hb) HCM.out (fun i hi => lostL_or q Y i) q1 (by omega) HAL.out)
    clear hDF hl2 hM hcm hcv1 hcv2
    go_wp2_with (fail)
    refine HDF.out.mono ?_
    rintro e w10 ⟨rfl, hb10⟩
    replace hb10 := Lib.hid hb10
    go_wp2_with (fail)
    refine (HRF.out _ hb10.out).mono ?_
    rintro e w11 (⟨_, rfl, hb11⟩ | ⟨hx2, _⟩)
    · have HB11 := Lib.hid (below_then HW3.out HW3.out.size (below_then HB8.out HB8.out.size (below_then HM.out.below HM.out.below.size (below_then hb10.out hb10.out.size hb11))))
      clear hb11
      by_cases hk1 : k = 1
      · have k3 : (k : Int) = 1 := by omega
        have k4 : (m : Int) + 1 ≥ (k : Int) + (m : Int) := by omega
        rcases hx with ⟨_, rfl⟩ | rfl
        · clear hk1
          go_wp2_with (fail)
          go_ret
          exact ⟨rfl, HB11.out⟩
        · clear hk1
          go_wp2_with (fail)
          go_ret
          exact ⟨rfl, HB11.out⟩
      · obtain rfl : x = 16 := by omega
        have k4 : (m : Int) + 1 < (k : Int) + (m : Int) := by omega
        clear hk1 hx
        go_wp2_with (fail)
        go_ret
        exact ⟨rfl, HB11.out⟩
    · exact absurd HFE.out (by rw [hx2]; exact Nat.lt_irrefl k)
  · obtain ⟨a, ha⟩ : ∃ a : Nat, r = (a : Int) := ⟨r.toNat, by omega⟩
    subst ha
    have ham : a ≤ m := by omega
    go_wp2_with (fail)
    clear hr hr0 hr1 hr2 mz
    refine (lost_c g3 p3 s q b3 cs a A4 l4 c4 f4 w3 HR1.out (RdF.below HA4.out HW3.out) HF4.out s1 (by omega) q1 (by have := HSK.out; omega)).mono ?_
    rintro e w4 ⟨gl, cl, Z, rfl, hcl, hL⟩
    have HCL := Lib.hid hcl
    have HL := Lib.hid hL
    have HLL := Lib.hid (lost_rdm HR2.out hL)
    have HFU := Lib.hid (lost_full (k := k) (m := m) q1 HSK.out hL.len ham)
    have HAK := Lib.hid (show alikeB s (k + m) (lostL q Z) = true from by rw [← HSK.out]; exact alike_of (q := q) (fun i hi => lostL_or q Z i))
    have HDE := Lib.hid (decode_yes cb k m s (some ⟨gl, 0, none⟩) cl q n (lostL q Z) (encF k q n d) w4 HSK.out (HC3.out.below hL.below) hk (by omega) HLL.out hcl (fun i hi => lostL_or q Z i) q1 (by omega) HAK.out (by
      have h1 := lost_max (q := q) (s := s) (Z := Z) (by rw [hL.len]; have := HSK.out; omega)
      have h2 : k * q ≤ k * maxL (lostL q Z) s := Nat.mul_le_mul_left _ h1
      have := HQ3.out
      omega))
    clear hL hcl
    go_wp2_with (fail)
    refine HDE.out.mono ?_
    rintro e w5 (⟨hx, _⟩ | ⟨_, gd, rfl, hgd, D, hWD, hrow, hb5⟩)
    · exact absurd hx (by rw [HFU.out]; exact Nat.lt_irrefl k)
    have HWD := Lib.hid hWD
    have HROW := Lib.hid hrow
    have HB5 := Lib.hid hb5
    have HRE := Lib.hid (repair_yes cb k m s (some ⟨gl, 0, none⟩) cl q (lostL q Z) (encF k q n d) w5 HSK.out ((HC3.out.below HL.out.below).below hb5) hk (by omega) (HLL.out.below hb5) HCL.out (fun i hi => lostL_or q Z i) q1 (by omega) HAK.out)
    clear hWD hrow hb5 HDE hgd
    go_wp2_with (fail)
    refine HRE.out.mono ?_
    rintro e w6 (⟨hx, _⟩ | ⟨_, va, D2, rfl, hWD2, hN⟩)
    · exact absurd hx (by rw [HFU.out]; exact Nat.lt_irrefl k)
    have hEa := rep_enc (L := lostL q Z) (G := encF k q n d) (q := q) (n := n) (d := d) (fun i _ _ x _ => rfl) (by omega) HFU.out hWD2
    obtain ⟨ga, ca', ba, rfl, hca, hMa⟩ := hN.congr (fun i x hi hx => hEa i hi x hx)
    have HMA := Lib.hid hMa
    have HB6 := Lib.hid (below_then HL.out.below HL.out.below.size (below_then HB5.out HB5.out.size hMa.2.2.2.2))
    have HS1 := Lib.hid (same_c (some ⟨ga, 0, none⟩) (some ⟨g3, 0, none⟩) s s ca' p3 (fun _ => q) (fun _ => q) (encF k q n d) (encF k q n d) w6 hMa.1.rd (hX.out.1.rd.below HB6.out) (by omega) (by omega))
    rw [sameB_true ⟨rfl, fun _ _ => ⟨rfl, fun _ _ => rfl⟩⟩] at HS1
    have hcv1 : (convert 22 9 (.slice (some ⟨gd, 0, none⟩) n n)).run Try.prog w6 = .ok (.string (strE n d)) w6 := by
      have h : RdB w6 (some ⟨gd, 0, none⟩) n d := RdF.congr (HROW.out.below hMa.2.2.2.2).rd (fun j hj => by rw [dec_data (fun i _ _ x _ => rfl) (by omega) HFU.out HWD.out q1 HQ3.out hj])
      exact run_conv_bytes Try.underlying22 Try.underlying5 Try.underlying9 h
    have hcv2 : (convert 22 9 (.slice A n ac)).run Try.prog w6 = .ok (.string (strE n d)) w6 := run_conv_bytes Try.underlying22 Try.underlying5 Try.underlying9 (RdF.below (RdF.below HA.out HW3.out) HB6.out)
    have HCA := Lib.hid hca
    have HCK := Lib.hid (fun w (hb : Below w6.heap.size w6 w) => by
      have h := check_yes cb k m (some ⟨ga, 0, none⟩) ca' q (encF k q n d) w ((HC3.out.below HB6.out).below hb) hk (by omega) (by rw [← HSK.out]; exact HMA.out.1.rd.below hb) (by rw [← HSK.out]; exact HCA.out) q1 (by omega)
      rw [fits, ← HSK.out] at h
      exact h)
    clear hWD2 hN hEa hMa HRE hca
    go_wp2_with (first | ((with_reducible refine HS1.out.mono ?_); rintro e w7 ⟨rfl, hd7⟩; replace hd7 := Lib.hid hd7; have hcv3 := trivial) | ((with_reducible refine (HCK.out _ hd7.out.below).mono ?_); rintro e w8 ⟨rfl, hb8⟩; replace hb8 := Lib.hid hb8))
    have HB8 := Lib.hid (below_then HB6.out HB6.out.size (below_then hd7.out.below hd7.out.below.size hb8.out))
    have hl2 := lost_c g3 p3 s q b3 cs (m + 1) A4 l4 c4 f4 w8 (HR1.out.below HB8.out) (RdF.below (RdF.below HA4.out HW3.out) HB8.out) HF4.out s1 (by omega) q1 (by have := HSK.out; omega)
    simp only [Int.natCast_add, Int.natCast_one] at hl2
    refine hl2.mono ?_
    rintro e w9 ⟨gm, cm, Y, rfl, hcm, hM⟩
    have HCM := Lib.hid hcm
    have HM := Lib.hid hM
    have HLM := Lib.hid (lost_rdm (fun i hi => ⟨(HR2.out i hi).1, (HR2.out i hi).2.below HB8.out⟩) hM)
    have HFE := Lib.hid (lost_few (q := q) hk HSK.out hM.nodup hM.lt hM.len)
    have HAL := Lib.hid (show alikeB s (k + m) (lostL q Y) = true from by rw [← HSK.out]; exact alike_of (q := q) (fun i hi => lostL_or q Y i))
    obtain ⟨x, hx, hDF⟩ := decode_few cb k m s (some ⟨gm, 0, none⟩) cm q n (lostL q Y) (encF k q n d) w9 HSK.out ((HC3.out.below HB8.out).below hM.below) hk (by omega) HLM.out hcm (fun i hi => lostL_or q Y i) q1 (by omega) HAL.out (by omega) HFE.out (fun h2k => by
      have h1 := lost_max (q := q) (s := s) (Z := Y) (by rw [hM.len]; have := HSK.out; omega)
      have h2 : k * q ≤ k * maxL (lostL q Y) s := Nat.mul_le_mul_left _ h1
      have := HQ3.out
      omega)
    have HDF := Lib.hid hDF
    have HRF := Lib.hid (fun w (hb : Below w9.heap.size w9 w) => repair_yes cb k m s (some ⟨gm, 0, none⟩) cm q (lostL q Y) (encF k q n d) w HSK.out (((HC3.out.below HB8.out).below HM.out.below).below hb) hk (by omega) (HLM.out.below hb) HCM.out (fun i hi => lostL_or q Y i) q1 (by omega) HAL.out)
    clear hDF hl2 hM hcm hcv1 hcv2
    go_wp2_with (fail)
    refine HDF.out.mono ?_
    rintro e w10 ⟨rfl, hb10⟩
    replace hb10 := Lib.hid hb10
    go_wp2_with (fail)
    refine (HRF.out _ hb10.out).mono ?_
    rintro e w11 (⟨_, rfl, hb11⟩ | ⟨hx2, _⟩)
    · have HB11 := Lib.hid (below_then HW3.out HW3.out.size (below_then HB8.out HB8.out.size (below_then HM.out.below HM.out.below.size (below_then hb10.out hb10.out.size hb11))))
      clear hb11
      by_cases hk1 : k = 1
      · have k3 : (k : Int) = 1 := by omega
        have k4 : (m : Int) + 1 ≥ (k : Int) + (m : Int) := by omega
        rcases hx with ⟨_, rfl⟩ | rfl
        · clear hk1
          go_wp2_with (fail)
          go_ret
          exact ⟨rfl, HB11.out⟩
        · clear hk1
          go_wp2_with (fail)
          go_ret
          exact ⟨rfl, HB11.out⟩
      · obtain rfl : x = 16 := by omega
        have k4 : (m : Int) + 1 < (k : Int) + (m : Int) := by omega
        clear hk1 hx
        go_wp2_with (fail)
        go_ret
        exact ⟨rfl, HB11.out⟩
    · exact absurd HFE.out (by rw [hx2]; exact Nat.lt_irrefl k)

theorem walk (a0 a1 : Int) (a2 : Option Addr) (len2 cap2 : Nat) (a3 : Int) (a4 : Option Addr) (len4 cap4 : Nat) (w : World) (w0 : (Lit.int .i64 a0).wf = true) (w1 : (Lit.int .i64 a1).wf = true) (y2 : len2 * 1 ≤ 140737488351232) (w2 : IsBytes w a2 len2 cap2) (w3 : (Lit.int .i64 a3).wf = true) (y4 : len4 * 8 ≤ 140737488351232) (w4 : IsInts w a4 len4 cap4) :
    Calls Try.prog 5 #[.int .i64 a0, .int .i64 a1, .slice a2 len2 cap2, .int .i64 a3, .slice a4 len4 cap4] w fun e w' => e = .returned (.bool true) ∧ Below w.heap.size w w' := by
  obtain ⟨f2, h2, c2⟩ := w2
  obtain ⟨f4, h4, c4, d4⟩ := w4
  by_cases h : 1 ≤ a0 ∧ 0 ≤ a1 ∧ a0 ≤ 12 ∧ a1 ≤ 12 ∧ len2 ≤ 2000
  · obtain ⟨g1, g2, g3, g4, g5⟩ := h
    obtain ⟨k, rfl⟩ := Int.eq_ofNat_of_zero_le (show 0 ≤ a0 by omega)
    obtain ⟨m, rfl⟩ := Int.eq_ofNat_of_zero_le (show 0 ≤ a1 by omega)
    exact walk_in k m a2 len2 cap2 f2 a3 a4 len4 cap4 f4 w (by omega) (by omega) (by omega) g5 c2 h2 (int_of w3) h4 c4
  · exact walk_out a0 a1 a2 len2 cap2 a3 a4 len4 cap4 w (by omega) (by omega)

set_option maxRecDepth 100000 in
theorem lifted (os : Os) (started : os.Started) (H : Type) (enc : TypeId × Value → H) :
    ReturnsInHanded {} Try.checked os 5 .any (Rows.rsAnySpec.pre6 enc Try.prog Try.f5 Rows.rsAnyRow.domain false) (Rows.rsAnySpec.post enc Try.prog Try.f5 false true false false) := by
  refine returnsInHanded_of_change_sized (C := Try.checked) own started (by kernel_rfl) Try.func5
    (ChangeSpec.witness6 (enc := enc) (C := Try.checked) false ⟨#[], #[.int .i64 0, .int .i64 0, .slice none 0 0, .int .i64 0, .slice none 0 0], []⟩ 8 (by kernel_rfl) (by kernel_rfl) (by kernel_rfl) (by kernel_rfl)) ?_
  intro W base args ds gs before hval0 hW hcnd hsz0 _
  have hsz : (DataW.weightsEach Try.prog (Try.f5.params.toList ++ Rows.rsAnySpec.plain.varTypes Try.prog) (ds ++ gs)).all (· ≤ reachBytes) = true := hsz0
  have hval : ∀ (j : Nat) t v, Try.f5.params[j]? = some t → args[j]? = some v → Value.okWide Try.prog W .any base t v := hval0
  have hW' := hW
  obtain ⟨p, q, hA0, hV, rfl, hfz, hnd⟩ := hW
  have hA : DataW.TrodAll enc Try.prog W 0 (fun _ => true) true Try.f5.params.toList args.toList ds p := hA0
  rw [Try.params5] at hA hval hsz
  obtain ⟨v0, vs0, d0, ds0, p0, q0, hargs, rfl, rfl, h0, r0⟩ := trodAll_cons hA
  obtain ⟨v1, vs1, d1, ds1, p1, q1, rfl, rfl, rfl, h1, r1⟩ := trodAll_cons r0
  obtain ⟨v2, vs2, d2, ds2, p2, q2, rfl, rfl, rfl, h2, r2⟩ := trodAll_cons r1
  obtain ⟨v3, vs3, d3, ds3, p3, q3, rfl, rfl, rfl, h3, r3⟩ := trodAll_cons r2
  obtain ⟨v4, vs4, d4, ds4, p4, q4, rfl, rfl, rfl, h4, r4⟩ := trodAll_cons r3
  obtain ⟨rfl, rfl, rfl⟩ := trodAll_nil r4
  obtain rfl : args = #[v0, v1, v2, v3, v4] := by cases args; simp_all
  obtain ⟨rfl, rfl⟩ := trodVars_none hV
  obtain ⟨a0, rfl, rfl, rfl, w0⟩ := open_int Try.underlying3 (hval 0 3 v0 rfl rfl) h0
  obtain ⟨a1, rfl, rfl, rfl, w1⟩ := open_int Try.underlying3 (hval 1 3 v1 rfl rfl) h1
  obtain ⟨a2, len2, cap2, rfl⟩ := okWide_slice Try.underlying22 (hval 2 22 v2 rfl rfl)
  have k2 := h2
  have lt2 : ∀ x ∈ p2, x.block < W.heap.size := by obtain ⟨m, hm⟩ := k2; exact DataW.trod_lt m _ _ _ hm
  obtain ⟨y2, w2⟩ := bytes_of hsz (j := 2) rfl rfl h2
  obtain ⟨a3, rfl, rfl, rfl, w3⟩ := open_int Try.underlying3 (hval 3 3 v3 rfl rfl) h3
  obtain ⟨a4, len4, cap4, rfl⟩ := okWide_slice Try.underlying37 (hval 4 37 v4 rfl rfl)
  have k4 := h4
  have lt4 : ∀ x ∈ p4, x.block < W.heap.size := by obtain ⟨m, hm⟩ := k4; exact DataW.trod_lt m _ _ _ hm
  obtain ⟨y4, w4⟩ := ints_of hsz (j := 4) rfl rfl h4
  clear hA0 hval0 hsz0 hsz
  refine (walk a0 a1 a2 len2 cap2 a3 a4 len4 cap4 W w0 w1 y2 w2 w3 y4 w4).mono fun e W' ⟨he, bel⟩ => ?_
  subst he
  exact ⟨_, rfl, _, _, _, [], _, [], hW', trodAll_mk1 (shut_bool Try.underlying4 _), (trodAll_cons_mk (shut_int Try.underlying3 w0) (trodAll_cons_mk (shut_int Try.underlying3 w1) (trodAll_cons_mk (Below.trod laidOut (by kernel_rfl) (of_decide_eq_true (by kernel_rfl)) k2 bel lt2) (trodAll_cons_mk (shut_int Try.underlying3 w3) (trodAll_cons_mk (Below.trod laidOut (by kernel_rfl) (of_decide_eq_true (by kernel_rfl)) k4 bel lt4) trodAll_mk0))))), rfl, bel.frame _, fun h => by cases h⟩
theorem over : Rows.rsAnyRow.holds Try.pinned (OpenSpec.ofChange Rows.rsAnySpec) :=
  OpenClaim.holds_of_wide 5 Try.f5 rfl rfl rfl rfl rfl rfl rfl ⟨rfl, rfl, rfl, rfl, rfl⟩ rfl rfl rfl rfl rfl (by kernel_rfl) Try.func5 (by kernel_rfl)
    (of_decide_eq_true (by kernel_rfl)) (by unfold Func.isWrapper; first | (rw [if_pos (by decide +kernel)]; kernel_rfl) | (rw [if_neg (by decide +kernel)]; exact ⟨rfl, rfl⟩))
    (fun os started H enc _ => lifted os started H enc)
theorem proved : Rows.RsAnySaid := over
#print axioms proved
end Go.Proofs.Ytccfnhocjiehnaa.rsAny
namespace Go.Proofs.Ytccfnhocjiehnaa
/-- The row, under a short name, for the claim. -/
theorem rsAny_holds : Rows.RsAnySaid := rsAny.proved
end Go.Proofs.Ytccfnhocjiehnaa
