/- Plain: what the walks' tests on texts are in the plain model. -/
import Derived.Test.YtpfgjiapdepdmaaGreatDoorIdent
import Derived.Test.YtpfgjiapdepdmaaGreatDoorQuot
import Derived.Test.YtpfgjiapdepdmaaGreatDoorPure
namespace Go.Proofs.YtpfgjiapdepdmaaGreatDoor

theorem bt_toArray (l : List UInt8) (k : Nat) : bt ⟨l.toArray⟩ k = ((l.getD k 0).toNat : Int) := rfl
theorem size_toArray (l : List UInt8) : (⟨l.toArray⟩ : ByteArray).size = l.length := by simp [ByteArray.size]

theorem smallI_eq (c : UInt8) : smallI (c.toNat : Int) = Pu.small c := by
  unfold smallI Pu.small
  rw [Bool.eq_iff_iff]
  simp [UInt8.le_iff_toNat_le]
  omega
theorem digitI_eq (c : UInt8) : digitI (c.toNat : Int) = Pu.digit c := by
  unfold digitI Pu.digit
  rw [Bool.eq_iff_iff]
  simp [UInt8.le_iff_toNat_le]
  omega
theorem anyB_eq (p : Int → Bool) (l : List UInt8) : anyB p ⟨l.toArray⟩ = l.any (fun c => p (c.toNat : Int)) := by
  unfold anyB idxB
  rw [size_toArray]
  cases hf : (List.range l.length).find? (fun k => p (bt ⟨l.toArray⟩ k)) with
  | some i =>
    have hp := List.find?_some hf
    have hi : i < l.length := by simpa using List.mem_of_find?_eq_some hf
    rw [bt_toArray, List.getD_eq_getElem?_getD, List.getElem?_eq_getElem hi] at hp
    simp only [Int.natCast_nonneg, decide_true]
    symm
    rw [List.any_eq_true]
    exact ⟨l[i], List.getElem_mem hi, hp⟩
  | none =>
    rw [List.find?_eq_none] at hf
    symm
    simp only [show ¬ ((0 : Int) ≤ -1) by decide, decide_false]
    rw [List.any_eq_false]
    intro x hx
    obtain ⟨i, hi, rfl⟩ := List.getElem_of_mem hx
    have := hf i (by simpa using hi)
    rw [bt_toArray, List.getD_eq_getElem?_getD, List.getElem?_eq_getElem hi] at this
    exact this
theorem toList_toArray (l : List UInt8) : (⟨l.toArray⟩ : ByteArray).toList = l := by
  rw [ByteArray.toList_eq]
theorem wordB_eq (l : List UInt8) : wordB ⟨l.toArray⟩ = Pu.word l := by
  unfold wordB
  rw [anyB_eq, toList_toArray, size_toArray, bt_toArray]
  cases l with
  | nil => rfl
  | cons c t =>
    simp only [Pu.word, List.isEmpty_cons, Bool.not_false, Bool.true_and, List.getD_cons_zero]
    rw [smallI_eq]
    congr 1
    rw [List.not_any_eq_all_not]
    congr 1
    funext x
    simp only [notAl, smallI_eq, digitI_eq, Pu.alnum]
    cases Pu.small x <;> cases Pu.digit x <;> rfl
theorem quotB_eq (l : List UInt8) : quotB ⟨l.toArray⟩ = Pu.quotable l := by
  unfold quotB Pu.quotable
  rw [anyB_eq, size_toArray, List.not_any_eq_all_not]
  congr 1
  congr 1
  funext x
  unfold notQ
  rw [Bool.eq_iff_iff]
  have e34 : ((x.toNat : Int) == 34) = (x == 34) := by
    rw [Bool.eq_iff_iff]; simp [← UInt8.toNat_inj]; omega
  have e92 : ((x.toNat : Int) == 92) = (x == 92) := by
    rw [Bool.eq_iff_iff]; simp [← UInt8.toNat_inj]; omega
  rw [e34, e92]
  simp [UInt8.le_iff_toNat_le, bne]
  omega
theorem sameS_eq (a b : List UInt8) : sameS ⟨a.toArray⟩ ⟨b.toArray⟩ = (a == b) := by
  unfold sameS
  rw [toList_toArray, toList_toArray]
theorem hasS_iff (l : List ByteArray) (v : ByteArray) : hasS l v = l.any (fun x => sameS v x) := by
  unfold hasS idxS
  cases hf : (List.range l.length).find? (fun k => sameS v (l.getD k ByteArray.empty)) with
  | some i =>
    have hp := List.find?_some hf
    have hi : i < l.length := by simpa using List.mem_of_find?_eq_some hf
    rw [List.getD_eq_getElem?_getD, List.getElem?_eq_getElem hi] at hp
    simp only [Int.natCast_nonneg, decide_true]
    symm
    rw [List.any_eq_true]
    exact ⟨l[i], List.getElem_mem hi, hp⟩
  | none =>
    rw [List.find?_eq_none] at hf
    symm
    simp only [show ¬ ((0 : Int) ≤ -1) by decide, decide_false]
    rw [List.any_eq_false]
    intro x hx
    obtain ⟨i, hi, rfl⟩ := List.getElem_of_mem hx
    have := hf i (by simpa using hi)
    rw [List.getD_eq_getElem?_getD, List.getElem?_eq_getElem hi] at this
    exact this
theorem identB_eq (l : List UInt8) : identB ⟨l.toArray⟩ = Pu.ident l := by
  unfold identB Pu.ident
  rw [wordB_eq, hasS_iff]
  congr 1
  congr 1
  unfold keywords kw
  simp only [List.any_cons, List.any_nil, sameS_eq, Bool.or_false]
  simp only [List.contains_cons, List.contains_nil, Bool.or_false]
  rfl
end Go.Proofs.YtpfgjiapdepdmaaGreatDoor
