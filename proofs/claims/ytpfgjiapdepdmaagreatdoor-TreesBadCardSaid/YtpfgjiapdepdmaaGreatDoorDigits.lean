/- A token of digits by strconv.Atoi. -/
import Derived.Test.YtpfgjiapdepdmaaGreatDoorNamed
import Derived.Test.YtpfgjiapdepdmaaGreatDoorShelf
namespace Go.Proofs.YtpfgjiapdepdmaaGreatDoor
open Go.RowKit Go.Shelf

theorem digitVal_of (c : UInt8) (h : Pu.digit c = true) : Lib.digitVal c = some (c.toNat - 48) := by
  unfold Pu.digit at h
  simp only [Bool.and_eq_true, decide_eq_true_eq, UInt8.le_iff_toNat_le] at h
  have h1 : (48 : UInt8).toNat = 48 := rfl
  have h2 : (57 : UInt8).toNat = 57 := rfl
  rw [h1, h2] at h
  unfold Lib.digitVal
  simp [h.1, h.2]
theorem decFrom_of (l : List UInt8) (h : l.all Pu.digit = true) (acc : Nat) : ∃ n : Nat, Lib.decFrom acc l = some n ∧ (n : Int) = l.foldl (fun n c => 10 * n + ((c.toNat : Int) - 48)) (acc : Int) := by
  induction l generalizing acc with
  | nil => exact ⟨acc, rfl, rfl⟩
  | cons c l ih =>
    simp only [List.all_cons, Bool.and_eq_true] at h
    have hv := digitVal_of c h.1
    obtain ⟨n, h1, h2⟩ := ih h.2 (acc * 10 + (c.toNat - 48))
    refine ⟨n, ?_, ?_⟩
    · unfold Lib.decFrom
      rw [hv]
      exact h1
    · rw [h2, List.foldl_cons]
      congr 1
      have : 48 ≤ c.toNat := by
        have := h.1
        unfold Pu.digit at this
        simp only [Bool.and_eq_true, decide_eq_true_eq, UInt8.le_iff_toNat_le] at this
        exact this.1
      omega
theorem atoi_of (s : List UInt8) (h : Pu.number s = true) : Lib.atoi s = some (Pu.numOf s) := by
  cases s with
  | nil => cases h
  | cons c t =>
    simp only [Pu.number, Bool.and_eq_true] at h
    have hd := h.1.2
    have hc : Pu.digit c = true := by simp only [List.all_cons, Bool.and_eq_true] at hd; exact hd.1
    have hc2 := hc
    unfold Pu.digit at hc2
    simp only [Bool.and_eq_true, decide_eq_true_eq, UInt8.le_iff_toNat_le] at hc2
    have e45 : (c == 45) = false := by
      rw [beq_eq_false_iff_ne]; intro e; subst e; simp at hc2
    have e43 : (c == 43) = false := by
      rw [beq_eq_false_iff_ne]; intro e; subst e; simp at hc2
    obtain ⟨n, h1, h2⟩ := decFrom_of (c :: t) hd 0
    unfold Lib.atoi
    simp only [e45, e43, Bool.false_eq_true, if_false]
    have : Lib.decNat (c :: t) = some n := h1
    rw [this, Option.map_some, h2]
    rfl
theorem number_size (s : List UInt8) (h : Pu.number s = true) : s.length ≤ 6 := by
  cases s with
  | nil => cases h
  | cons c t =>
    simp only [Pu.number, Bool.and_eq_true, decide_eq_true_eq] at h
    exact h.1.1
theorem atoi_any (s : List UInt8) (h : Pu.number s = true) (w : World) :
    Calls Tryz.prog 109 #[.string ⟨s.toArray⟩] w fun e w' => e = .returned (.tuple #[.int .i64 (Pu.numOf s), .nilIface]) ∧ Below w.heap.size w w' := by
  refine (Tryz.strconv_Atoi ⟨s.toArray⟩ (Pu.numOf s) ?_ ?_ w).mono ?_
  · have := number_size s h
    rw [size_toArray]; omega
  · exact atoi_of s h
  · rintro e w' ⟨rfl, t, rfl⟩
    exact ⟨rfl, rfl, rfl, rfl, by rw [Lib.bytesWorld_size]; omega, fun k hk => Lib.bytesWorld_at_old w _ t k hk⟩
end Go.Proofs.YtpfgjiapdepdmaaGreatDoor
