/- The walk of token.Quotable. -/
import Derived.Test.YtpfgjiapdepdmaaGreatDoorTok2
namespace Go.Proofs.YtpfgjiapdepdmaaGreatDoor
open Go.RowKit Go.Shelf

def notQ (c : Int) : Bool := decide (c < 32) || decide (126 < c) || c == 34 || c == 92
theorem quot1_any (c : Int) (w : World) :
    Calls Tryz.prog 108 #[.int .u8 c] w fun e w' => e = .returned (.bool (notQ c)) ∧ w = w' := by
  by_cases h1 : c < 32
  · go_enter Tryz.func108, Tryz.ntmps108
    go_wp2
    go_ret
    simp [notQ, h1]
  · by_cases h2 : 126 < c
    · go_enter Tryz.func108, Tryz.ntmps108
      go_wp2
      go_ret
      simp [notQ, h2]
    · cases h3 : c == 34
      · have h4 := h3
        have hf := Lib.hid (show notQ c = (c == 92) by simp only [notQ, h1, h2, h3]; simp)
        go_enter Tryz.func108, Tryz.ntmps108
        go_wp2
        go_ret
        exact ⟨by rw [hf.out]; rfl, rfl⟩
      · have hf := Lib.hid (show notQ c = true by simp only [notQ, h3]; simp)
        go_enter Tryz.func108, Tryz.ntmps108
        go_wp2
        go_ret
        exact ⟨by rw [hf.out]; rfl, rfl⟩
theorem enters_quot1 : ∀ (args : Array Value) (w : World), (callFunc 108 args).run Tryz.prog w = .ok (.enter 108 args) w :=
  enters_of Tryz.func108 (by kernel_rfl) rfl

def quotB (s : ByteArray) : Bool := decide (s.size ≤ 20) && !anyB notQ s
set_option maxRecDepth 100000 in
theorem quot_any (s : ByteArray) (w : World) :
    Calls Tryz.prog 90 #[.string s] w fun e w' => e = .returned (.bool (quotB s)) ∧ Below w.heap.size w w' := by
  by_cases h2 : s.size ≤ 20
  · have hf := Lib.hid (show quotB s = !anyB notQ s by simp [quotB, h2])
    obtain ⟨w1, c, hrun, hbel, _, hr⟩ := conv_bytes (P := Tryz.prog) w 9 73 5 s Tryz.underlying9 Tryz.underlying73 Tryz.underlying5
    have hc := Lib.hid (containsFuncB 108 notQ enters_quot1 (fun c w => quot1_any c w) _ s.size c s w1 rfl (by unfold maxLen; omega) hr)
    clear hr
    have hbel' := Lib.hid hbel
    clear hbel
    go_enter Tryz.func90, Tryz.ntmps90
    go_wp2_with (go_at_call 98; refine hc.out.mono ?_; rintro e w' ⟨rfl, rfl⟩)
    go_ret
    exact ⟨by rw [hf.out]; rfl, hbel'.out⟩
  · have hf := Lib.hid (show quotB s = false by simp [quotB, h2])
    go_enter Tryz.func90, Tryz.ntmps90
    go_wp2
    go_ret
    exact ⟨by rw [hf.out]; rfl, Below.refl _ _⟩
end Go.Proofs.YtpfgjiapdepdmaaGreatDoor
