/- The walks of package token's small functions: what they answer at every argument. -/
import Derived.Test.YtpfgjiapdepdmaaGreatDoorProg
import Derived.Test.YtpfgjiapdepdmaaGreatDoorWords
import Derived.WalkSpells
import Derived.WalkLawsBesides
import Derived.Shelf.Abstract
namespace Go.Proofs.YtpfgjiapdepdmaaGreatDoor
open Go.RowKit Go.Shelf

def smallI (c : Int) : Bool := decide (97 ≤ c) && decide (c ≤ 122)
def digitI (c : Int) : Bool := decide (48 ≤ c) && decide (c ≤ 57)

theorem small_any (c : Int) (w : World) :
    Calls Tryz.prog 91 #[.int .u8 c] w fun e w' => e = .returned (.bool (smallI c)) ∧ w = w' := by
  by_cases h : 97 ≤ c
  · go_enter Tryz.func91, Tryz.ntmps91
    go_wp2
    go_ret
    simp [smallI, h]
  · go_enter Tryz.func91, Tryz.ntmps91
    go_wp2
    go_ret
    simp [smallI]; omega
theorem digit_any (c : Int) (w : World) :
    Calls Tryz.prog 92 #[.int .u8 c] w fun e w' => e = .returned (.bool (digitI c)) ∧ w = w' := by
  by_cases h : 48 ≤ c
  · go_enter Tryz.func92, Tryz.ntmps92
    go_wp2
    go_ret
    simp [digitI, h]
  · go_enter Tryz.func92, Tryz.ntmps92
    go_wp2
    go_ret
    simp [digitI]; omega
theorem word1_any (c : Int) (w : World) :
    Calls Tryz.prog 99 #[.int .u8 c] w fun e w' => e = .returned (.bool (!smallI c && !digitI c)) ∧ w = w' := by
  cases h : smallI c
  · go_enter Tryz.func99, Tryz.ntmps99
    go_wp2_with (first | (go_at_call 91; refine (small_any _ _).mono ?_; rintro e w' ⟨rfl, rfl⟩) | (go_at_call 92; refine (digit_any _ _).mono ?_; rintro e w' ⟨rfl, rfl⟩))
    go_ret
    simp
  · go_enter Tryz.func99, Tryz.ntmps99
    go_wp2_with (first | (go_at_call 91; refine (small_any _ _).mono ?_; rintro e w' ⟨rfl, rfl⟩) | (go_at_call 92; refine (digit_any _ _).mono ?_; rintro e w' ⟨rfl, rfl⟩))
    go_ret
    simp

/-- a closure over bytes that only answers -/
def AskB (g : FuncId) (p : Int → Bool) : Prop := ∀ (c : Int) (w : World), Calls Tryz.prog g #[.int .u8 c] w fun e w' => e = .returned (.bool (p c)) ∧ w = w'

/-- the first byte of a text of which p holds; -1: there is none -/
def idxB (p : Int → Bool) (s : ByteArray) : Int := match (List.range s.size).find? (fun k => p (bt s k)) with
  | some i => i
  | none => -1
def NoneTo (p : Int → Bool) (s : ByteArray) (k : Nat) : Prop := ∀ j, j < k → p (bt s j) = false
theorem idxB_at (p : Int → Bool) (s : ByteArray) (k : Nat) (hk : k < s.size) (hp : p (bt s k) = true) (hn : NoneTo p s k) : idxB p s = k := by
  unfold idxB
  have : (List.range s.size).find? (fun k => p (bt s k)) = some k := by
    rw [List.find?_range_eq_some]
    exact ⟨hp, by simpa using hk, fun j hj => by simpa using hn j hj⟩
  rw [this]
theorem idxB_none (p : Int → Bool) (s : ByteArray) (hn : NoneTo p s s.size) : idxB p s = -1 := by
  unfold idxB
  have : (List.range s.size).find? (fun k => p (bt s k)) = none := by
    rw [List.find?_eq_none]
    intro x hx
    rw [hn x (by simpa using hx)]
    simp
  rw [this]
theorem NoneTo.succ {p : Int → Bool} {s : ByteArray} {k : Nat} (h : NoneTo p s k) (hp : p (bt s k) = false) : NoneTo p s (k + 1) := by
  intro j hj
  rcases Nat.lt_or_ge j k with h' | h'
  · exact h j h'
  · obtain rfl : j = k := by omega
    exact hp

theorem indexFuncB (g : FuncId) (p : Int → Bool) (eg : ∀ (args : Array Value) (w : World), (callFunc g args).run Tryz.prog w = .ok (.enter g args) w) (hg : AskB g p) (A : Option Addr) (n cap : Nat) (s : ByteArray) (w : World) (hs : s.size = n) (hn : n ≤ maxLen)
    (hr : Reads w w.heap.size 1 A n (byteCells s)) :
    Calls Tryz.prog 112 #[.slice A n cap, .func (.func g) #[] #[]] w fun e w' => e = .returned (.int .i64 (idxB p s)) ∧ w = w' := by
  subst hs
  unfold maxLen at hn
  have hg' := Lib.hid hg
  clear hg
  go_enter Tryz.func112, Tryz.ntmps112
  go_wp2
  go_loop [8] (fun i => ∃ k : Nat, k ≤ s.size ∧ i = .int .i64 k ∧ NoneTo p s k) (fun i => s.size - (intOf i).toNat)
  case atStart => exact ⟨0, Nat.zero_le _, rfl, fun j h => absurd h (by omega)⟩
  case round =>
    obtain ⟨k, hk, rfl, hno⟩ := hrel
    by_cases hlt : k < s.size
    · obtain ⟨b, off, u, rfl, _, hu, hc⟩ := hr.at_ hlt
      obtain rfl := byteCells_at s hu
      clear hu
      cases hp : p (bt s k)
      · have hno' := hno.succ hp
        have hp' := Lib.hid hp
        go_wp2_with (go_at_fn g; refine (hg'.out _ _).mono ?_; rintro e w' ⟨rfl, rfl⟩)
        go_round
        case rel => exact ⟨k + 1, by omega, by go_num, hno'⟩
        case measure => simp [intOf]; omega
      · have hi := Lib.hid (idxB_at p s k hlt hp hno)
        go_wp2_with (go_at_fn g; refine (hg'.out _ _).mono ?_; rintro e w' ⟨rfl, rfl⟩)
        go_ret
        exact ⟨by rw [hi.out]; rfl, rfl⟩
    · obtain rfl : k = s.size := by omega
      have hi := Lib.hid (idxB_none p s hno)
      go_wp2
      go_ret
      exact ⟨by rw [hi.out]; rfl, rfl⟩

/-- is there a byte of which p holds? -/
def anyB (p : Int → Bool) (s : ByteArray) : Bool := decide (0 ≤ idxB p s)
theorem containsFuncB (g : FuncId) (p : Int → Bool) (eg : ∀ (args : Array Value) (w : World), (callFunc g args).run Tryz.prog w = .ok (.enter g args) w) (hg : AskB g p) (A : Option Addr) (n cap : Nat) (s : ByteArray) (w : World) (hs : s.size = n) (hn : n ≤ maxLen)
    (hr : Reads w w.heap.size 1 A n (byteCells s)) :
    Calls Tryz.prog 98 #[.slice A n cap, .func (.func g) #[] #[]] w fun e w' => e = .returned (.bool (anyB p s)) ∧ w = w' := by
  have hc := Lib.hid (indexFuncB g p eg hg A n cap s w hs hn hr)
  clear hg hs hr eg
  go_enter Tryz.func98, Tryz.ntmps98
  go_wp2_with (go_at_call 112; refine hc.out.mono ?_; rintro e w' ⟨rfl, rfl⟩)
  go_ret
  simp [anyB]
end Go.Proofs.YtpfgjiapdepdmaaGreatDoor
