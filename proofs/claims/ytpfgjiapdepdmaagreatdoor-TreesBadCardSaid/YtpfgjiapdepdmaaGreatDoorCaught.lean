/- The walk of caught, deferred: behind a fault, behind a return. -/
import Derived.Test.YtpfgjiapdepdmaaGreatDoorTake
import Derived.Defers
import Derived.Recover
namespace Go.Proofs.YtpfgjiapdepdmaaGreatDoor
open Go.RowKit Go.Shelf

theorem assert_fault (W : World) (x : TypeId) (v : Value) : (Instr.typeAssert (.iface 120 v) x 120 true).run Tryz.prog W = .ok (.tuple #[v, .bool true]) W := by kernel_rfl
set_option maxRecDepth 20000 in
theorem caught_fault (k : Nat) (E : Nat) (u0 : Value) (w : World) (hc : w.cell? ⟨E, 0, none⟩ = some u0) (hz : w.frozen? ⟨E, 0, none⟩ = false) :
    CallsD Tryz.prog 34 #[.pointer (some ⟨E, 0, none⟩)] (.panicking [{ v := fault k, recovered := false }]) w fun e u' w' =>
      e = .returned (.tuple #[]) ∧ u' = .panicking [{ v := fault k, recovered := true }] ∧ w' = (w.setCell ⟨E, 0, none⟩ (.int .i64 (k : Int))).alloc (.cells #[.int .i64 (k : Int)] 120) := by
  have hlt := World.block_lt_of_cell? w _ hc
  simp only at hlt
  refine callsD_of_wpS Tryz.func34 rfl fun c₀ cs hu => ?_
  apply wpS_seq
  apply wpS_region
  simp [wpOpsS, go_sem, recoverD, hu, Tryz.ntmps34, Exit.thenS]
  apply wpS_seq
  apply wpS_seq
  apply wpS_region
  simp [wpOpsS, go_sem, recoverD, Exit.thenS, fault]
  refine wpS_cond (t := false) (by simp [Act.eval, go_sem]) ?_
  simp only [Bool.false_eq_true, if_false]
  refine wpS_of_wp (wp_skip ?_)
  simp only [Exit.thenS]
  refine wpS_of_wp ?_
  have hta := assert_fault
  have hnot : ∀ (x : Bool) (w : World), (Op.unary .not (.bool x)).run Tryz.prog w = .ok (.bool (!x)) w := fun _ _ => rfl
  refine Code.wp_mono (Q := fun e a w' => e = .normal ∧ a.defers = [] ∧ w' = (w.setCell ⟨E, 0, none⟩ (.int .i64 (k : Int))).alloc (.cells #[.int .i64 (k : Int)] 120)) ?_ ?_
  · rintro e a w' ⟨rfl, hd, rfl⟩
    simp [bodyPostS, hd, results, Tryz.results34, go_sem]
  · simp only [Array.replicate_succ, Array.replicate_zero, List.push_toArray, List.append_toArray, List.nil_append, List.cons_append, List.setIfInBounds_toArray, List.set_cons_succ, List.set_cons_zero]
    go_wp2
theorem caught_idle (E : Nat) (w : World) :
    CallsD Tryz.prog 34 #[.pointer (some ⟨E, 0, none⟩)] .returning w fun e u' w' => e = .returned (.tuple #[]) ∧ u' = .returning ∧ w = w' := by
  refine callsD_of_wpS Tryz.func34 rfl fun c₀ cs hu => ?_
  apply wpS_seq
  apply wpS_region
  simp [wpOpsS, go_sem, recoverD, hu, Tryz.ntmps34, Exit.thenS]
  apply wpS_seq
  apply wpS_seq
  apply wpS_region
  simp [wpOpsS, go_sem, recoverD, hu, Exit.thenS]
  refine wpS_cond (t := true) (by simp [Act.eval, Array.replicate]) ?_
  simp only [if_true]
  refine wpS_of_wp (wp_ret ?_)
  cases c₀
  simp_all [Exit.thenS, bodyPostS, results, Tryz.results34]
end Go.Proofs.YtpfgjiapdepdmaaGreatDoor
