/- The walks of slices.Index and slices.Contains at []string. -/
import Derived.Test.YtpfgjiapdepdmaaGreatDoorTok1
namespace Go.Proofs.YtpfgjiapdepdmaaGreatDoor
open Go.RowKit Go.Shelf

def strCells (l : List ByteArray) : List Value := l.map Value.string
theorem strCells_at (l : List ByteArray) {k : Nat} {u : Value} (hu : (strCells l)[k]? = some u) : u = .string (l.getD k ByteArray.empty) := by
  unfold strCells at hu
  rw [List.getElem?_map] at hu
  obtain ⟨c, hc, rfl⟩ := Option.map_eq_some_iff.1 hu
  simp [List.getD_eq_getElem?_getD, hc]
/-- are two texts the same, byte by byte? -/
def sameS (a b : ByteArray) : Bool := a.toList == b.toList
def NoneS (l : List ByteArray) (v : ByteArray) (k : Nat) : Prop := ∀ j, j < k → sameS v (l.getD j ByteArray.empty) = false
def idxS (l : List ByteArray) (v : ByteArray) : Int := match (List.range l.length).find? (fun k => sameS v (l.getD k ByteArray.empty)) with
  | some i => i
  | none => -1
theorem idxS_at (l : List ByteArray) (v : ByteArray) (k : Nat) (hk : k < l.length) (hp : sameS v (l.getD k ByteArray.empty) = true) (hn : NoneS l v k) : idxS l v = k := by
  unfold idxS
  have : (List.range l.length).find? (fun k => sameS v (l.getD k ByteArray.empty)) = some k := by
    rw [List.find?_range_eq_some]
    exact ⟨hp, by simpa using hk, fun j hj => by rw [hn j hj]; rfl⟩
  rw [this]
theorem idxS_none (l : List ByteArray) (v : ByteArray) (hn : NoneS l v l.length) : idxS l v = -1 := by
  unfold idxS
  have : (List.range l.length).find? (fun k => sameS v (l.getD k ByteArray.empty)) = none := by
    rw [List.find?_eq_none]
    intro x hx
    rw [hn x (by simpa using hx)]
    simp
  rw [this]
theorem NoneS.succ {l : List ByteArray} {v : ByteArray} {k : Nat} (h : NoneS l v k) (hp : sameS v (l.getD k ByteArray.empty) = false) : NoneS l v (k + 1) := by
  intro j hj
  rcases Nat.lt_or_ge j k with h' | h'
  · exact h j h'
  · obtain rfl : j = k := by omega
    exact hp

theorem indexS (A : Option Addr) (n cap : Nat) (l : List ByteArray) (v : ByteArray) (w : World) (hs : l.length = n) (hn : n ≤ maxLen) (hr : Reads w w.heap.size 1 A n (strCells l)) :
    Calls Tryz.prog 100 #[.slice A n cap, .string v] w fun e w' => e = .returned (.int .i64 (idxS l v)) ∧ w = w' := by
  subst hs
  unfold maxLen at hn
  go_enter Tryz.func100, Tryz.ntmps100
  go_wp2
  go_loop [8] (fun i => ∃ k : Nat, k ≤ l.length ∧ i = .int .i64 k ∧ NoneS l v k) (fun i => l.length - (intOf i).toNat)
  case atStart => exact ⟨0, Nat.zero_le _, rfl, fun j h => absurd h (by omega)⟩
  case round =>
    obtain ⟨k, hk, rfl, hno⟩ := hrel
    by_cases hlt : k < l.length
    · obtain ⟨b, off, u, rfl, _, hu, hc⟩ := hr.at_ hlt
      obtain rfl := strCells_at l hu
      clear hu
      obtain ⟨x, hx⟩ : ∃ x, x = l.getD k ByteArray.empty := ⟨_, rfl⟩
      rw [← hx] at hc
      cases hp : v.toList == x.toList
      · have hno' := hno.succ (show sameS v (l.getD k ByteArray.empty) = false by rw [← hx]; exact hp)
        clear hx
        go_wp2
        go_round
        case rel => exact ⟨k + 1, by omega, by go_num, hno'⟩
        case measure => simp [intOf]; omega
      · have hi := Lib.hid (idxS_at l v k hlt (show sameS v (l.getD k ByteArray.empty) = true by rw [← hx]; exact hp) hno)
        clear hx
        go_wp2
        go_ret
        exact ⟨by rw [hi.out]; rfl, rfl⟩
    · obtain rfl : k = l.length := by omega
      have hi := Lib.hid (idxS_none l v hno)
      go_wp2
      go_ret
      exact ⟨by rw [hi.out]; rfl, rfl⟩

def hasS (l : List ByteArray) (v : ByteArray) : Bool := decide (0 ≤ idxS l v)
theorem containsS (A : Option Addr) (n cap : Nat) (l : List ByteArray) (v : ByteArray) (w : World) (hs : l.length = n) (hn : n ≤ maxLen) (hr : Reads w w.heap.size 1 A n (strCells l)) :
    Calls Tryz.prog 69 #[.slice A n cap, .string v] w fun e w' => e = .returned (.bool (hasS l v)) ∧ w = w' := by
  have hc := Lib.hid (indexS A n cap l v w hs hn hr)
  clear hs hr
  go_enter Tryz.func69, Tryz.ntmps69
  go_wp2_with (go_at_call 100; refine hc.out.mono ?_; rintro e w' ⟨rfl, rfl⟩)
  go_ret
  simp [hasS]
end Go.Proofs.YtpfgjiapdepdmaaGreatDoor
