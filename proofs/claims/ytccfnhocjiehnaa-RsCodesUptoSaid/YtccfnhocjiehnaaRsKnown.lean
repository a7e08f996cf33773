/- glacierlaw12's known: the chapter's example. -/
import Derived.Test.YtccfnhocjiehnaaEncode
import Derived.Lib.SlBytesConst
import Derived.Laws.NewBlocks
namespace Go.Proofs.Ytccfnhocjiehnaa
open Go.RowKit
set_option linter.unusedVariables false
set_option linter.unusedSimpArgs false

def abF (i : Nat) : Gf.E := if i = 0 then 97 else 98
theorem ab_rd (w : World) : RdB (w.alloc (.cells #[.int .u8 97, .int .u8 98] 5 (2, 3))) (some ⟨w.heap.size, 0, none⟩) 2 abF := fun _ => ⟨_, rfl, fun j hj => by
  rw [add_plain, cell_of_row _ _ _ _ _ _ (heap_alloc_new w _)]
  match j, hj with
  | 0, _ => rfl
  | 1, _ => rfl⟩
theorem str97 : strE 1 (encF 2 1 2 abF 0) = ⟨#[97]⟩ := by
  rw [strE_congr (g := fun _ => 97) (fun j hj => by obtain rfl : j = 0 := by omega
                                                    rfl)]
  rfl
theorem str98 : strE 1 (encF 2 1 2 abF 1) = ⟨#[98]⟩ := by
  rw [strE_congr (g := fun _ => 98) (fun j hj => by obtain rfl : j = 0 := by omega
                                                    rfl)]
  rfl
set_option maxRecDepth 100000 in
set_option maxHeartbeats 4000000 in
theorem rsknown_c (w : World) : Calls Try.prog 7 #[] w fun e w' => e = .returned (.bool true) ∧ Below w.heap.size w w' := by
  have HN := Lib.hid (fun w => new_yes 2 1 w (by omega) (by omega))
  go_enter Try.func7, Try.ntmps7
  go_wp2_with (fail)
  refine (HN.out _).mono ?_
  rintro e w1 ⟨b, rfl, hC, hb0, hb1⟩
  have HC := Lib.hid hC
  have HB1 := Lib.hid hb1
  clear hC hb1
  have kc := fun (w : World) (C : Array Value) (n c : Nat) => Lib.run_convert_bytes_const (P := Try.prog) w 22 5 C n c Try.underlying22 Try.underlying5
  have hne : ∀ (g : Nat) (W : World), (binOp .eql 24 (.pointer (some ⟨g, 0, none⟩)) (.pointer none)).run Try.prog W = .ok (.bool false) W := fun _ _ => by simp [go_sem]
  have HE := Lib.hid (encode_c b 2 1 (some ⟨w1.heap.size, 0, none⟩) 2 2 abF _ (HC.out.below (box_below w1 (.cells #[.int .u8 97, .int .u8 98] 5 (2, 3)))) (by omega) (by omega) (ab_rd w1) (by omega))
  go_wp2_with (fail)
  refine HE.out.mono ?_
  rintro e w2 ⟨v2, rfl, g2, cap2, bs2, rfl, hc2, hM2⟩
  have HM2 := Lib.hid hM2
  have hb2 := below_then HB1.out HB1.out.size (below_then (box_below w1 (.cells #[.int .u8 97, .int .u8 98] 5 (2, 3))) (by simp) hM2.2.2.2.2)
  have hbc := below_then (box_below w1 (.cells #[.int .u8 97, .int .u8 98] 5 (2, 3))) (by simp) hM2.2.2.2.2
  have HB2 := Lib.hid hb2
  have HS := Lib.hid (split_c b 2 1 none 0 0 (fun _ => 0) w2 (HC.out.below hbc) (by omega) (by omega) RdF.none_ (by omega))
  clear hM2 hb2 hbc HE
  go_wp2_with (fail)
  refine HS.out.mono ?_
  rintro e w3 ⟨v3, As, cs, w30, rfl, hb3, hC3⟩
  have hN := hC3.new (m := 1) (by omega) (by omega) (fun _ _ => rfl)
  have hb3' := below_then hb3 hb3.size hC3.below
  obtain ⟨g3, cap3, bs3, rfl, hc3, ⟨cs3, hM3, _⟩, _⟩ := hN
  obtain ⟨⟨cs2, hM2, hR2⟩, _⟩ := HM2.out
  have f0 := cell_below hb3' (hM2.cell (show 0 < 2 + 1 by omega))
  have f1 := cell_below hb3' (hM2.cell (show 1 < 2 + 1 by omega))
  have f2 := cell_below hb3' (hM2.cell (show 2 < 2 + 1 by omega))
  have f3 := hM3.cell (show 0 < 2 by omega)
  have r0 := (hR2 0 (by omega)).2.below hb3'
  have r1 := (hR2 1 (by omega)).2.below hb3'
  have e22 : wide 2 2 = 1 := rfl
  have e20 : wide 2 0 = 1 := rfl
  rw [e22] at f0 f1 f2 r0 r1
  have hv0 : (convert 22 9 (.slice (some ⟨bs2 0, 0, none⟩) 1 (cs2 0))).run Try.prog w3 = .ok (.string ⟨#[97]⟩) w3 := by
    rw [← str97]; exact run_conv_bytes Try.underlying22 Try.underlying5 Try.underlying9 r0.rd
  have hv1 : (convert 22 9 (.slice (some ⟨bs2 1, 0, none⟩) 1 (cs2 1))).run Try.prog w3 = .ok (.string ⟨#[98]⟩) w3 := by
    rw [← str98]; exact run_conv_bytes Try.underlying22 Try.underlying5 Try.underlying9 r1.rd
  have HB3 := Lib.hid (below_then HB2.out HB2.out.size hb3')
  clear hM2 hR2 hM3 r0 r1 hb3 hb3' hC3
  go_wp2_with (fail)
  go_ret
  exact ⟨rfl, HB3.out⟩
end Go.Proofs.Ytccfnhocjiehnaa
