/- The walk of the reader's name. -/
import Derived.Test.YtpfgjiapdepdmaaGreatDoorTake
import Derived.Test.YtpfgjiapdepdmaaGreatDoorLink
namespace Go.Proofs.YtpfgjiapdepdmaaGreatDoor
open Go.RowKit Go.Shelf

/-- what a reader of a text does -/
def NamePost (R : Nat) (d : Int) (w : World) (r : Except Nat (List UInt8 × List Pu.Tok)) (e : Ending) (w' : World) : Prop := match r with
  | .ok (s, l') => e = .returned (str s) ∧ Rd w' R l' d ∧ w.grownBy w' (some R)
  | .error k => Faulted k e ∧ (∃ l' d', Rd w' R l' d') ∧ w.grownBy w' (some R)
theorem name_nil (R : Nat) (d : Int) (w : World) (h : Rd w R [] d) :
    Calls Tryz.prog 64 #[.pointer (some ⟨R, 0, none⟩)] w fun e w' => Faulted 4 e ∧ (∃ l' d', Rd w' R l' d') ∧ w.grownBy w' (some R) := by
  have hn := Lib.hid (next_nil R d w h)
  have hR := h.lt
  clear h
  go_enter Tryz.func64, Tryz.ntmps64
  go_wp2_with fail
  refine hn.out.mono ?_
  rintro e w1 ⟨rfl, hr, hg⟩
  unfold str
  go_wp2_with fail
  refine (need_no 4 _).mono ?_
  rintro e w2 ⟨rfl, rfl⟩
  go_wp2_with fail
  exact ⟨rfl, rfl, ⟨_, _, hr.alloc _⟩, only_alloc hg _⟩
theorem name_cons (R : Nat) (d : Int) (t : Pu.Tok) (l : List Pu.Tok) (w : World) (h : Rd w R (t :: l) d) :
    Calls Tryz.prog 64 #[.pointer (some ⟨R, 0, none⟩)] w (NamePost R d w (Pu.pName (t :: l))) := by
  have hn := Lib.hid (next_cons R d t l w h)
  have hR := h.lt
  clear h
  by_cases hk : t.kind = 1
  · cases hi : Pu.ident t.text
    · have e1 : Pu.pName (t :: l) = .error 4 := by simp [Pu.pName, hi]
      rw [e1]
      have hid := identB_eq t.text
      rw [hi] at hid
      have hn := hn.out
      rw [hk] at hn
      have hn := Lib.hid hn
      clear e1 hi hk
      show Calls _ _ _ _ fun e w' => Faulted 4 e ∧ (∃ l' d', Rd w' R l' d') ∧ w.grownBy w' (some R)
      have hc := fun W => ident_any ⟨t.text.toArray⟩ W
      rw [hid] at hc
      have hc := Lib.hid hc
      clear hid
      go_enter Tryz.func64, Tryz.ntmps64
      go_wp2_with fail
      refine hn.out.mono ?_
      rintro e w1 ⟨rfl, hr, hg⟩
      unfold str
      go_wp2_with fail
      refine (hc.out _).mono ?_
      rintro e w2 ⟨rfl, hb⟩
      go_wp2_with fail
      refine (need_no 4 _).mono ?_
      rintro e w3 ⟨rfl, rfl⟩
      go_wp2_with fail
      exact ⟨rfl, rfl, ⟨_, _, (hr.alloc _).below hb (by have := hr.lt; simp; omega)⟩, only_trans (only_alloc hg _) (only_of_below hb _)⟩
    · have e1 : Pu.pName (t :: l) = .ok (t.text, l) := by simp [Pu.pName, hi, hk]
      rw [e1]
      have hid := identB_eq t.text
      rw [hi] at hid
      have hn := hn.out
      rw [hk] at hn
      have hn := Lib.hid hn
      clear e1 hi hk
      show Calls _ _ _ _ fun e w' => e = .returned (str t.text) ∧ Rd w' R l d ∧ w.grownBy w' (some R)
      have hc := fun W => ident_any ⟨t.text.toArray⟩ W
      rw [hid] at hc
      have hc := Lib.hid hc
      clear hid
      go_enter Tryz.func64, Tryz.ntmps64
      go_wp2_with fail
      refine hn.out.mono ?_
      rintro e w1 ⟨rfl, hr, hg⟩
      unfold str
      go_wp2_with fail
      refine (hc.out _).mono ?_
      rintro e w2 ⟨rfl, hb⟩
      have c1 := cell_after hb (i := 1) rfl
      go_wp2_with fail
      refine (need_yes 4 _).mono ?_
      rintro e w3 ⟨rfl, rfl⟩
      go_wp2_with fail
      go_ret
      exact ⟨rfl, (hr.alloc _).below hb (by have := hr.lt; simp; omega), only_trans (only_alloc hg _) (only_of_below hb _)⟩
  · have e1 : Pu.pName (t :: l) = .error 4 := by simp [Pu.pName, hk]
    rw [e1]
    have hz : ((t.kind : Int) == 1) = false := by rw [beq_eq_false_iff_ne]; omega
    clear e1
    show Calls _ _ _ _ fun e w' => Faulted 4 e ∧ (∃ l' d', Rd w' R l' d') ∧ w.grownBy w' (some R)
    go_enter Tryz.func64, Tryz.ntmps64
    go_wp2_with fail
    refine hn.out.mono ?_
    rintro e w1 ⟨rfl, hr, hg⟩
    unfold str
    go_wp2_with fail
    refine (need_no 4 _).mono ?_
    rintro e w2 ⟨rfl, rfl⟩
    go_wp2_with fail
    exact ⟨rfl, rfl, ⟨_, _, hr.alloc _⟩, only_alloc hg _⟩

theorem name_any (R : Nat) (d : Int) (l : List Pu.Tok) (w : World) (h : Rd w R l d) :
    Calls Tryz.prog 64 #[.pointer (some ⟨R, 0, none⟩)] w (NamePost R d w (Pu.pName l)) := by
  cases l with
  | nil => exact name_nil R d w h
  | cons t l => exact name_cons R d t l w h
end Go.Proofs.YtpfgjiapdepdmaaGreatDoor
