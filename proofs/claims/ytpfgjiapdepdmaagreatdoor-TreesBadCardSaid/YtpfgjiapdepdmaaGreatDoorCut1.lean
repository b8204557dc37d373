/- The walk of strings.Cut at one byte. -/
import Derived.Test.YtpfgjiapdepdmaaGreatDoorNum
import Derived.Test.YtpfgjiapdepdmaaGreatDoorSplit
import Derived.Deep.QuietTactic
import Derived.BigQuiet
namespace Go.Proofs.YtpfgjiapdepdmaaGreatDoor
open Go.RowKit Go.Shelf

theorem idx_none : ∀ (s : List UInt8) (c : UInt8), Lib.indexByte s c < 0 → s.takeWhile (· != c) = s ∧ s.dropWhile (· != c) = []
  | [], _, _ => ⟨rfl, rfl⟩
  | a :: t, c, h => by
    unfold Lib.indexByte at h
    by_cases hc : a = c
    · have e : (a == c) = true := by simpa using hc
      rw [e] at h; simp at h
    · have e : (a == c) = false := by simpa using hc
      have e2 : (a != c) = true := by simpa using hc
      rw [e] at h
      have ht : Lib.indexByte t c < 0 := by
        by_cases h1 : Lib.indexByte t c = -1
        · omega
        · have e1 : (Lib.indexByte t c == -1) = false := by simpa using h1
          rw [e1] at h
          simp at h
          omega
      obtain ⟨h1, h2⟩ := idx_none t c ht
      rw [List.takeWhile_cons, List.dropWhile_cons, if_pos e2, if_pos e2, h1, h2]
      exact ⟨rfl, rfl⟩
theorem idx_some : ∀ (s : List UInt8) (c : UInt8) (i : Nat), Lib.indexByte s c = (i : Int) → s.takeWhile (· != c) = s.take i ∧ s.dropWhile (· != c) = s.drop i ∧ i < s.length
  | [], c, i, h => by unfold Lib.indexByte at h; omega
  | a :: t, c, i, h => by
    unfold Lib.indexByte at h
    by_cases hc : a = c
    · have e : (a == c) = true := by simpa using hc
      have e2 : (a != c) = false := by simpa using hc
      rw [e] at h
      have hi : i = 0 := by simp at h; omega
      subst hi
      rw [List.takeWhile_cons, List.dropWhile_cons, if_neg (by simp [e2]), if_neg (by simp [e2])]
      exact ⟨rfl, rfl, by simp⟩
    · have e : (a == c) = false := by simpa using hc
      have e2 : (a != c) = true := by simpa using hc
      rw [e] at h
      by_cases h1 : Lib.indexByte t c = -1
      · have e1 : (Lib.indexByte t c == -1) = true := by simpa using h1
        rw [e1] at h
        simp at h
      · have e1 : (Lib.indexByte t c == -1) = false := by simpa using h1
        rw [e1] at h
        simp at h
        have hge := Lib.indexByte_ge t c
        cases i with
        | zero => omega
        | succ i =>
          obtain ⟨h2, h3, h4⟩ := idx_some t c i (by omega)
          rw [List.takeWhile_cons, List.dropWhile_cons, if_pos e2, if_pos e2, h2, h3]
          exact ⟨rfl, rfl, by simp; omega⟩
/-- what is cut at a byte -/
def cutAt (s : List UInt8) (c : UInt8) : Value := .tuple #[.string ⟨(s.takeWhile (· != c)).toArray⟩, .string ⟨((s.dropWhile (· != c)).tail).toArray⟩, .bool (!(s.dropWhile (· != c)).isEmpty)]
theorem cutAt_none {s : List UInt8} {c : UInt8} (h : Lib.indexByte s c < 0) : cutAt s c = .tuple #[.string ⟨s.toArray⟩, .string ⟨#[]⟩, .bool false] := by
  obtain ⟨h1, h2⟩ := idx_none s c h
  unfold cutAt
  rw [h1, h2]
  rfl
theorem cutAt_some {s : List UInt8} {c : UInt8} {i : Nat} (h : Lib.indexByte s c = (i : Int)) : cutAt s c = .tuple #[.string ⟨(s.take i).toArray⟩, .string ⟨(s.drop (i + 1)).toArray⟩, .bool true] ∧ i < s.length := by
  obtain ⟨h1, h2, h3⟩ := idx_some s c i h
  have e : (s.drop i).tail = s.drop (i + 1) := by rw [List.tail_drop]
  have e2 : (s.drop i).isEmpty = false := by
    cases hd : s.drop i with
    | nil => have := congrArg List.length hd; simp at this; omega
    | cons a b => rfl
  unfold cutAt
  rw [h1, h2, e, e2]
  exact ⟨rfl, h3⟩
theorem slCut_one (s : List UInt8) (c : UInt8) (hs : s.length ≤ 1500) (w : World) :
    Calls Tryz.prog 107 #[.string ⟨s.toArray⟩, .string ⟨#[c]⟩] w fun e w' => e = .returned (cutAt s c) ∧ ∃ n, w' = w.drewN n := by
  have hix := Tryz.stringslite_Index_one ⟨s.toArray⟩ c
  have hge := Lib.indexByte_ge s c
  by_cases hneg : Lib.indexByte s c < 0
  · rw [cutAt_none hneg]
    have hd : ¬ 0 ≤ Lib.indexByte s c := by omega
    obtain ⟨i, hi⟩ : ∃ i, i = Lib.indexByte s c := ⟨_, rfl⟩
    have hix2 : ∀ W, Calls Tryz.prog 104 #[.string ⟨s.toArray⟩, .string ⟨#[c]⟩] W fun e w' => e = .returned (.int .i64 i) ∧ w' = W := by rw [hi]; exact hix
    rw [← hi] at hd
    replace hix2 := Lib.hid hix2
    replace hi := Lib.hid hi
    clear hix hge hneg hs
    go_enter Tryz.func107, Tryz.ntmps107
    go_wp2_with fail
    refine (hix2.out _).mono ?_
    rintro e w1 ⟨rfl, hw1⟩
    obtain rfl := hw1.symm
    go_wp2_with fail
    refine bodyPost_ret (v := .tuple #[.string ⟨s.toArray⟩, .string ⟨#[]⟩, .bool false]) (by simp [results, Tryz.results107, go_sem]) rfl ⟨rfl, 0, ?_⟩
    rfl
  · obtain ⟨i, hi⟩ : ∃ i : Nat, Lib.indexByte s c = (i : Int) := ⟨(Lib.indexByte s c).toNat, by omega⟩
    obtain ⟨he, hil⟩ := cutAt_some hi
    rw [he]
    have hix2 : ∀ W, Calls Tryz.prog 104 #[.string ⟨s.toArray⟩, .string ⟨#[c]⟩] W fun e w' => e = .returned (.int .i64 (i : Int)) ∧ w' = W := by rw [← hi]; exact hix
    have hsz : (⟨s.toArray⟩ : ByteArray).size = s.length := size_toArray s
    have hex : (⟨s.toArray⟩ : ByteArray).extract 0 i = ⟨(s.take i).toArray⟩ := ext_list s 0 i
    have hex2 : (⟨s.toArray⟩ : ByteArray).extract (i + 1) s.length = ⟨(s.drop (i + 1)).toArray⟩ := by rw [ext_list, List.take_length]
    have hle : i + 1 ≤ s.length := by omega
    have hi1 : i + 1 ≤ 1500 := by omega
    replace hix2 := Lib.hid hix2
    clear hix hge hneg hi he
    go_enter Tryz.func107, Tryz.ntmps107
    go_wp2_with fail
    refine (hix2.out _).mono ?_
    rintro e w1 ⟨rfl, hw1⟩
    obtain rfl := hw1.symm
    go_wp2_with fail
    go_quiet (fail)
    go_wp2_with fail
    refine bodyPost_ret (v := .tuple #[.string ⟨(s.take i).toArray⟩, .string ⟨(s.drop (i + 1)).toArray⟩, .bool true]) (by simp [results, Tryz.results107, go_sem]) rfl ⟨rfl, _, rfl⟩
theorem cut_one (s : List UInt8) (c : UInt8) (hs : s.length ≤ 1500) (w : World) :
    Calls Tryz.prog 89 #[.string ⟨s.toArray⟩, .string ⟨#[c]⟩] w fun e w' => e = .returned (cutAt s c) ∧ ∃ n, w' = w.drewN n := by
  have h := Lib.hid (slCut_one s c hs w)
  clear hs
  unfold cutAt at *
  go_enter Tryz.func89, Tryz.ntmps89
  go_wp2_with fail
  refine h.out.mono ?_
  rintro e w1 ⟨rfl, n, rfl⟩
  go_wp2_with fail
  refine bodyPost_ret (v := cutAt s c) (by simp [results, Tryz.results89, go_sem, cutAt]) rfl ⟨rfl, n, rfl⟩
end Go.Proofs.YtpfgjiapdepdmaaGreatDoor
