/- The walks of tree.Ident and token.Quotable. -/
import Derived.Test.YtpfgjiapdepdmaaGreatDoorTok2
import Derived.Test.YtpfgjiapdepdmaaGreatDoorStr1
namespace Go.Proofs.YtpfgjiapdepdmaaGreatDoor
open Go.RowKit Go.Shelf

def kw (l : List UInt8) : ByteArray := ⟨l.toArray⟩
def keywords : List ByteArray := [kw [117, 115, 101], kw [116, 121, 112, 101], kw [102, 117, 110, 99], kw [105, 110, 116], kw [116, 101, 120, 116]]
def identB (s : ByteArray) : Bool := wordB s && !hasS keywords s

theorem ident_any (s : ByteArray) (w : World) :
    Calls Tryz.prog 39 #[.string s] w fun e w' => e = .returned (.bool (identB s)) ∧ Below w.heap.size w w' := by
  cases h1 : wordB s
  · have hf := Lib.hid (show identB s = false by simp [identB, h1])
    have hw := Lib.hid (word_any s w)
    go_enter Tryz.func39, Tryz.ntmps39
    go_wp2_with (go_at_call 68; refine hw.out.mono ?_; rintro e w' ⟨rfl, hb⟩)
    go_ret
    exact ⟨by rw [hf.out]; rfl, hb⟩
  · have hf := Lib.hid (show identB s = !hasS keywords s by simp [identB, h1])
    have hw := Lib.hid (word_any s w)
    go_enter Tryz.func39, Tryz.ntmps39
    go_wp2_with (first | (go_at_call 68; refine hw.out.mono ?_; rintro e w1 ⟨rfl, hb⟩) | (go_at_call 69; refine (containsS _ 5 5 keywords s _ rfl (by unfold maxLen; omega) ?_).mono ?_))
    · exact Reads.new _ _ (strCells keywords) 1 5 rfl
    · rintro e w' ⟨rfl, rfl⟩
      go_wp2
      go_ret
      exact ⟨by rw [hf.out]; rfl, hb.alloc (by have := hb.size; omega) _⟩
end Go.Proofs.YtpfgjiapdepdmaaGreatDoor
