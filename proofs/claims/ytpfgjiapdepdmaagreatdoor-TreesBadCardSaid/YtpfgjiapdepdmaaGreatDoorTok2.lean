/- The walks of token.Word, token.Quotable and tree.Ident: what they answer at every text. -/
import Derived.Test.YtpfgjiapdepdmaaGreatDoorTok1
namespace Go.Proofs.YtpfgjiapdepdmaaGreatDoor
open Go.RowKit Go.Shelf

def notAl (c : Int) : Bool := !smallI c && !digitI c
def wordB (s : ByteArray) : Bool := !s.toList.isEmpty && decide (s.size ≤ 8) && smallI (bt s 0) && !anyB notAl s

theorem enters_word1 : ∀ (args : Array Value) (w : World), (callFunc 99 args).run Tryz.prog w = .ok (.enter 99 args) w :=
  enters_of Tryz.func99 (by kernel_rfl) rfl

theorem isEmpty_size (s : ByteArray) : s.toList.isEmpty = decide (s.size = 0) := by
  rw [Bool.eq_iff_iff]
  simp only [List.isEmpty_iff, decide_eq_true_eq]
  rw [← List.length_eq_zero_iff]
  have : s.toList.length = s.size := by simp [ByteArray.toList_eq, ByteArray.size_data]
  omega

set_option maxRecDepth 100000 in
theorem word_any (s : ByteArray) (w : World) :
    Calls Tryz.prog 68 #[.string s] w fun e w' => e = .returned (.bool (wordB s)) ∧ Below w.heap.size w w' := by
  by_cases h1 : s.size = 0
  · have e1 : s.toList.isEmpty = true := by rw [isEmpty_size]; simpa using h1
    have hf := Lib.hid (show wordB s = false by simp [wordB, e1])
    go_enter Tryz.func68, Tryz.ntmps68
    go_wp2
    go_ret
    exact ⟨by rw [hf.out]; rfl, Below.refl _ _⟩
  · have e1 : s.toList.isEmpty = false := by rw [isEmpty_size]; simpa using h1
    have e2 : (0 : Int) < s.size := by omega
    by_cases h2 : s.size ≤ 8
    · cases h3 : smallI (bt s 0)
      · have hf := Lib.hid (show wordB s = false by simp [wordB, h3])
        have hb := bt_get s 0 (by omega)
        go_enter Tryz.func68, Tryz.ntmps68
        go_wp2_with (go_at_call 91; refine (small_any _ _).mono ?_; rintro e w' ⟨rfl, rfl⟩)
        go_ret
        exact ⟨by rw [hf.out]; rfl, Below.refl _ _⟩
      · have hf := Lib.hid (show wordB s = !anyB notAl s by simp [wordB, e1, h2, h3])
        have hb := bt_get s 0 (by omega)
        obtain ⟨w1, c, hrun, hbel, _, hr⟩ := conv_bytes (P := Tryz.prog) w 9 73 5 s Tryz.underlying9 Tryz.underlying73 Tryz.underlying5
        have hc := Lib.hid (containsFuncB 99 notAl enters_word1 (fun c w => word1_any c w) _ s.size c s w1 rfl (by unfold maxLen; omega) hr)
        clear hr
        have hbel' := Lib.hid hbel
        clear hbel
        go_enter Tryz.func68, Tryz.ntmps68
        go_wp2_with (first | (go_at_call 91; refine (small_any _ _).mono ?_; rintro e w' ⟨rfl, rfl⟩) | (go_at_call 98; refine hc.out.mono ?_; rintro e w' ⟨rfl, rfl⟩))
        go_ret
        exact ⟨by rw [hf.out]; rfl, hbel'.out⟩
    · have hf := Lib.hid (show wordB s = false by simp [wordB, h2])
      go_enter Tryz.func68, Tryz.ntmps68
      go_wp2
      go_ret
      exact ⟨by rw [hf.out]; rfl, Below.refl _ _⟩
end Go.Proofs.YtpfgjiapdepdmaaGreatDoor
