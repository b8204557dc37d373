/- The walks of the reader's deeper and of the way back. -/
import Derived.Test.YtpfgjiapdepdmaaGreatDoorName
import Derived.Defers
namespace Go.Proofs.YtpfgjiapdepdmaaGreatDoor
open Go.RowKit Go.Shelf

theorem Rd.depth {w : World} {R : Nat} {l : List Pu.Tok} {d : Int} (h : Rd w R l d) : w.cell? ⟨R, 1, none⟩ = some (.int .i64 d) ∧ w.frozen? ⟨R, 1, none⟩ = false := by
  obtain ⟨A, c, hb, _⟩ := h
  exact ⟨hb.cell 1, hb.frozen 1⟩
theorem Rd.setDepth {w : World} {R : Nat} {l : List Pu.Tok} {d : Int} (h : Rd w R l d) (d' : Int) : Rd (w.setCell ⟨R, 1, none⟩ (.int .i64 d')) R l d' := by
  obtain ⟨A, c, hb, hc, hr⟩ := h
  exact ⟨A, c, hb.set_ 1 _, hc, hr.setCell (Nat.le_refl _) _⟩

theorem deeper_yes (R : Nat) (d : Int) (l : List Pu.Tok) (w : World) (h : Rd w R l d) (h0 : 0 ≤ d) (h1 : d < 40) :
    Calls Tryz.prog 96 #[.pointer (some ⟨R, 0, none⟩)] w fun e w' => e = .returned (.func (.func 110) #[] #[.pointer (some ⟨w.heap.size, 0, none⟩)]) ∧
      Rd w' R l (d + 1) ∧ w.grownBy w' (some R) ∧ w'.cell? ⟨w.heap.size, 0, none⟩ = some (.pointer (some ⟨R, 0, none⟩)) := by
  have hlt := h.lt
  have hr := (h.setDepth (d + 1)).alloc (.cells #[.pointer (some ⟨R, 0, none⟩)] 89)
  obtain ⟨c1, f1⟩ := h.depth
  have hmf : ∀ (fn : Fn) (first cap : Array Value) (w : World), (Instr.makeFunc fn first cap).run Tryz.prog w = .ok (.func fn first cap) w := fun _ _ _ _ => rfl
  have hd : decide (d + 1 ≤ 40) = true := by simp; omega
  replace hr := Lib.hid hr
  clear h
  go_enter Tryz.func96, Tryz.ntmps96
  go_wp2_with fail
  refine (need_yes 1 _).mono ?_
  rintro e w1 ⟨rfl, rfl⟩
  go_wp2_with fail
  go_ret
  refine ⟨rfl, hr.out, only_alloc (only_setCell (only_refl _ _) (.inl rfl) _) _, ?_⟩
  have e := cell_of_row _ _ 0 _ _ (0, 0) (heap_alloc_new (w.setCell ⟨R, 1, none⟩ (.int .i64 (d + 1))) (.cells #[.pointer (some ⟨R, 0, none⟩)] 89))
  simpa [World.setCell] using e
theorem deeper_no (R : Nat) (d : Int) (l : List Pu.Tok) (w : World) (h : Rd w R l d) (h1 : d = 40) :
    Calls Tryz.prog 96 #[.pointer (some ⟨R, 0, none⟩)] w fun e w' => Faulted 1 e ∧ (∃ l' d', Rd w' R l' d') ∧ w.grownBy w' (some R) := by
  subst h1
  have hlt := h.lt
  have hr := (h.setDepth 41).alloc (.cells #[.pointer (some ⟨R, 0, none⟩)] 89)
  obtain ⟨c1, f1⟩ := h.depth
  have hmf : ∀ (fn : Fn) (first cap : Array Value) (w : World), (Instr.makeFunc fn first cap).run Tryz.prog w = .ok (.func fn first cap) w := fun _ _ _ _ => rfl
  replace hr := Lib.hid hr
  clear h
  go_enter Tryz.func96, Tryz.ntmps96
  go_wp2_with fail
  refine (need_no 1 _).mono ?_
  rintro e w1 ⟨rfl, rfl⟩
  go_wp2_with fail
  exact ⟨rfl, rfl, ⟨_, _, hr.out⟩, only_alloc (only_setCell (only_refl _ _) (.inl rfl) _) _⟩
/-- the way back, deferred -/
theorem back_any (X R : Nat) (d : Int) (l : List Pu.Tok) (u : FrameMode) (w : World) (h : Rd w R l (d + 1)) (hx : w.cell? ⟨X, 0, none⟩ = some (.pointer (some ⟨R, 0, none⟩))) (h0 : 0 ≤ d) (h1 : d ≤ 40) :
    CallsD Tryz.prog 110 #[.pointer (some ⟨X, 0, none⟩)] u w fun e u' w' => u' = u ∧ (e = .returned (.tuple #[]) ∧ w' = w.setCell ⟨R, 1, none⟩ (.int .i64 d)) := by
  have hlt := h.lt
  obtain ⟨c1, f1⟩ := h.depth
  clear h
  have hdd : d + 1 - 1 = d := by omega
  go_enter_d Tryz.func110, Tryz.ntmps110
  go_wp2_with fail
  go_end0
  exact ⟨rfl, rfl⟩
/-- the same, whatever the depth: behind a fault -/
theorem back_fault (X R : Nat) (d : Int) (l : List Pu.Tok) (u : FrameMode) (w : World) (h : Rd w R l d) (hx : w.cell? ⟨X, 0, none⟩ = some (.pointer (some ⟨R, 0, none⟩))) :
    CallsD Tryz.prog 110 #[.pointer (some ⟨X, 0, none⟩)] u w fun e u' w' => u' = u ∧ (e = .returned (.tuple #[]) ∧ ∃ d', w' = w.setCell ⟨R, 1, none⟩ (.int .i64 d')) := by
  have hlt := h.lt
  obtain ⟨c1, f1⟩ := h.depth
  clear h
  go_enter_d Tryz.func110, Tryz.ntmps110
  go_wp2_with fail
  go_end0
  exact ⟨rfl, _, rfl⟩
end Go.Proofs.YtpfgjiapdepdmaaGreatDoor
