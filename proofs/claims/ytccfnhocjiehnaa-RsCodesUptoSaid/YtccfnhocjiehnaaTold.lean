/- rs.give, rs.told and the closures that it calls. -/
import Derived.Test.YtccfnhocjiehnaaMem
import Derived.Defers
import Derived.Recover
import Derived.WalkLawsBesides
namespace Go.Proofs.Ytccfnhocjiehnaa
open Go.RowKit
set_option linter.unusedVariables false
set_option linter.unusedSimpArgs false

/-- The panic by which rs gives up. -/
def gaveUp (k : Int) : PanicEntry := { v := .iface 25 (.int .i64 k), recovered := false }
def wasUp (k : Int) : PanicEntry := { v := .iface 25 (.int .i64 k), recovered := true }
theorem give_c (k : Int) (w : World) : Calls Try.prog 31 #[.int .i64 k] w fun e w' => e = .panicked [gaveUp k] ∧ w = w' := by
  unfold gaveUp
  go_enter Try.func31, Try.ntmps31
  go_wp2
  exact ⟨rfl, rfl, rfl⟩

/-- How the rest of told ends. -/
def ToldEnd (Post : World → Prop) : Exit → Act → World → Prop := fun e a w => e = .normal ∧ a.defers = [] ∧ Post w
theorem wpS_told {c : Code} {a : Act} {cs : List Frame} {w : World} {Q : Exit → Act → List Frame → World → Prop} (Post : World → Prop) (h : c.wp Try.prog (ToldEnd Post) a w) (hq : ∀ a' w', a'.defers = [] → Post w' → Q .normal a' cs w') : c.wpS Try.prog Q a cs w :=
  wpS_of_wp fun b k cs => let ⟨_, a', w', ⟨h1, h2, h3⟩, r⟩ := h b k cs; ⟨.normal, a', w', hq a' w' h2 h3, h1 ▸ r⟩

set_option maxHeartbeats 1000000 in
theorem told_idle (pe : Addr) (g : FuncId) (cap : Array Value) (w : World) :
    CallsD Try.prog 27 #[.pointer (some pe), .func (.func g) #[] cap] .returning w fun e u' w' => e = .returned (.tuple #[]) ∧ u' = .returning ∧ w' = w := by
  refine callsD_of_wpS Try.func27 rfl fun c₀ cs hu => ?_
  apply wpS_seq
  apply wpS_region
  simp [wpOpsS, go_sem, recoverD, hu, Try.ntmps27, Exit.thenS]
  refine wpS_told (w = ·) ?_ ?_
  · have hnil : ∀ w : World, (binOp .eql 20 .nilIface .nilIface).run Try.prog w = .ok (.bool true) w := fun _ => by kernel_rfl
    change Code.wp _ _ _ { tmps := #[Value.pointer (some pe), Value.func (Fn.func g) #[] cap, undef, undef, undef, undef, undef, .nilIface, undef, undef, undef, undef, undef, undef, undef, undef, undef, undef], defers := [] } w
    go_wp2
    exact ⟨rfl, rfl, rfl⟩
  · rintro a' w' hd rfl
    refine ⟨hd, _, ?_, _, by simp [results, Try.results27, go_sem], rfl, rfl, rfl⟩
    cases c₀
    simp_all
set_option maxRecDepth 100000 in
set_option maxHeartbeats 1000000 in
theorem told_up (pe : Addr) (k x : Int) (g : FuncId) (hent : ∀ args w, (callFunc g args).run Try.prog w = .ok (.enter g args) w) (cap : Array Value) (w : World) (Post : World → Prop) (hc : w.cell? pe = some (.int .i64 x)) (hf : w.frozen? pe = false)
    (hcall : Calls Try.prog g cap (w.setCell pe (.int .i64 k)) fun e w' => e = .returned (.tuple #[]) ∧ Post w') :
    CallsD Try.prog 27 #[.pointer (some pe), .func (.func g) #[] cap] (.panicking [gaveUp k]) w fun e u' w' => e = .returned (.tuple #[]) ∧ u' = .panicking [wasUp k] ∧ Post w' := by
  unfold gaveUp wasUp
  refine callsD_of_wpS Try.func27 rfl fun c₀ cs hu => ?_
  apply wpS_seq
  apply wpS_region
  simp [wpOpsS, go_sem, recoverD, hu, Try.ntmps27, Exit.thenS]
  refine wpS_told Post ?_ ?_
  · have hnil : ∀ w : World, (binOp .eql 20 (.iface 25 (.int .i64 k)) .nilIface).run Try.prog w = .ok (.bool false) w := fun _ => by kernel_rfl
    have hta : ∀ w : World, (Instr.typeAssert (.iface 25 (.int .i64 k)) 20 25 true).run Try.prog w = .ok (.tuple #[.int .i64 k, .bool true]) w := fun _ => by kernel_rfl
    have HC := Lib.hid hcall
    clear hcall hu
    change Code.wp _ _ _ { tmps := #[Value.pointer (some pe), Value.func (Fn.func g) #[] cap, undef, undef, undef, undef, undef, .iface 25 (.int .i64 k), undef, undef, undef, undef, undef, undef, undef, undef, undef, undef], defers := [] } w
    go_wp2_with (fail)
    refine HC.out.mono ?_
    rintro e w2 ⟨rfl, hp⟩
    go_wp2
    exact ⟨rfl, rfl, hp⟩
  · rintro a' w' hd hp
    exact ⟨hd, _, rfl, _, by simp [results, Try.results27, go_sem], rfl, rfl, hp⟩
theorem zero1_c (a : Addr) (v : Value) (w : World) (hc : w.cell? a = some v) (hf : w.frozen? a = false) : Calls Try.prog 42 #[.pointer (some a)] w fun e w' => e = .returned (.tuple #[]) ∧ w' = w.setCell a (.slice none 0 0) := by
  go_enter Try.func42, Try.ntmps42
  go_wp2
  go_end0
  exact ⟨rfl, rfl⟩
theorem zero2_c (a : Addr) (v : Value) (w : World) (hc : w.cell? a = some v) (hf : w.frozen? a = false) : Calls Try.prog 34 #[.pointer (some a)] w fun e w' => e = .returned (.tuple #[]) ∧ w' = w.setCell a (.slice none 0 0) := by
  go_enter Try.func34, Try.ntmps34
  go_wp2
  go_end0
  exact ⟨rfl, rfl⟩
theorem zero3_c (a : Addr) (v : Value) (w : World) (hc : w.cell? a = some v) (hf : w.frozen? a = false) : Calls Try.prog 38 #[.pointer (some a)] w fun e w' => e = .returned (.tuple #[]) ∧ w' = w.setCell a (.slice none 0 0) := by
  go_enter Try.func38, Try.ntmps38
  go_wp2
  go_end0
  exact ⟨rfl, rfl⟩
theorem zero4_c (a : Addr) (v : Value) (w : World) (hc : w.cell? a = some v) (hf : w.frozen? a = false) : Calls Try.prog 28 #[.pointer (some a)] w fun e w' => e = .returned (.tuple #[]) ∧ w' = w.setCell a (.bool false) := by
  go_enter Try.func28, Try.ntmps28
  go_wp2
  go_end0
  exact ⟨rfl, rfl⟩
end Go.Proofs.Ytccfnhocjiehnaa
