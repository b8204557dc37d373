/- The plain law of TreesBad: the texts that are no declaration are refused; brackets too deep are. -/
import Derived.Test.YtpfgjiapdepdmaaGreatDoorPure
import Derived.ProofKit
namespace Go.Proofs.YtpfgjiapdepdmaaGreatDoor
namespace Pu
def bads : List Bytes := [[117, 115, 101],
  [117, 115, 101, 32, 105, 110, 116],
  [117, 115, 101, 32, 97, 32, 98],
  [116, 121, 112, 101, 32, 97],
  [116, 121, 112, 101, 32, 97, 32, 61],
  [116, 121, 112, 101, 32, 97, 32, 61, 32, 91, 105, 110, 116],
  [116, 121, 112, 101, 32, 97, 32, 61, 32, 105, 110, 116, 93],
  [116, 121, 112, 101, 32, 102, 117, 110, 99, 32, 61, 32, 105, 110, 116],
  [102, 117, 110, 99, 32, 97],
  [102, 117, 110, 99, 32, 97, 40, 41, 58, 32, 105, 110, 116],
  [102, 117, 110, 99, 32, 97, 40, 58, 32, 105, 110, 116, 32, 61, 32, 49],
  [102, 117, 110, 99, 32, 97, 40, 112, 32, 105, 110, 116, 41, 58, 32, 105, 110, 116, 32, 61, 32, 49],
  [102, 117, 110, 99, 32, 97, 40, 112, 58, 32, 105, 110, 116, 44, 41, 58, 32, 105, 110, 116, 32, 61, 32, 49],
  [102, 117, 110, 99, 32, 97, 60, 62, 40, 41, 58, 32, 105, 110, 116, 32, 61, 32, 49],
  [102, 117, 110, 99, 32, 97, 40, 41, 58, 32, 105, 110, 116, 32, 61, 32, 49, 32, 43],
  [102, 117, 110, 99, 32, 97, 40, 41, 58, 32, 105, 110, 116, 32, 61, 32, 43, 32, 49],
  [102, 117, 110, 99, 32, 97, 40, 41, 58, 32, 105, 110, 116, 32, 61, 32, 91],
  [102, 117, 110, 99, 32, 97, 40, 41, 58, 32, 105, 110, 116, 32, 61, 32, 91, 93],
  [102, 117, 110, 99, 32, 97, 40, 41, 58, 32, 105, 110, 116, 32, 61, 32, 98, 46, 99],
  [102, 117, 110, 99, 32, 97, 40, 41, 58, 32, 105, 110, 116, 32, 61, 32, 40, 49],
  [102, 117, 110, 99, 32, 97, 40, 41, 58, 32, 105, 110, 116, 32, 61, 32, 112, 91],
  [108, 101, 116, 32, 97, 32, 61, 32, 49],
  [49],
  [97]]
def pre : Bytes := [102, 117, 110, 99, 32, 97, 40, 41, 58, 32, 105, 110, 116, 32, 61, 32]
def isErr (k : Nat) : Except Nat Md → Bool
  | .error e => e == k
  | .ok _ => false
def isOk : Except Nat Md → Bool
  | .error _ => false
  | .ok _ => true
theorem of_isErr {k : Nat} {r : Except Nat Md} (h : isErr k r = true) : r = .error k := by
  cases r with
  | error e => simp only [isErr, beq_iff_eq] at h; rw [h]
  | ok m => cases h
theorem of_isOk {r : Except Nat Md} (h : isOk r = true) : ∃ m, r = .ok m := by
  cases r with
  | error e => cases h
  | ok m => exact ⟨m, rfl⟩
theorem bads_all : bads.all (fun l => isErr 4 (read (l ++ [10]))) = true := by kernel_rfl
theorem bads_read {k : Nat} {l : Bytes} (h : bads[k]? = some l) : read (l ++ [10]) = .error 4 := of_isErr (List.all_eq_true.mp bads_all l (List.mem_of_getElem? h))
def deep (n : Nat) : Bytes := List.replicate n 40 ++ [49] ++ List.replicate n 41
theorem deep_size : read (pre ++ deep 40) = .error 1 := of_isErr (by kernel_rfl)
theorem deep_ok : ∃ m, read (pre ++ deep 39) = .ok m := of_isOk (by kernel_rfl)
end Pu
end Go.Proofs.YtpfgjiapdepdmaaGreatDoor
