/- The package-level variables of Go's library that the walks read. -/
import Derived.Test.YtpfgjiapdepdmaaGreatDoorWords
import Derived.Test.YtpfgjiapdepdmaaGreatDoorShelf
import Derived.WalkSmall
namespace Go.Proofs.YtpfgjiapdepdmaaGreatDoor
open Go.RowKit Go.Shelf

theorem gl_syn : Tryz.prog.globalNamed "strconv.ErrSyntax" = some 5 := by kernel_rfl
theorem gl_rng : Tryz.prog.globalNamed "strconv.ErrRange" = some 6 := by kernel_rfl
theorem gl_tab : Tryz.prog.globalNamed "internal/strconv.uint64pow10" = some 4 := by kernel_rfl
/-- the variables are as the library's text lays them -/
structure Env (w : World) : Prop where
  syn : ∃ tp p, w.var? Tryz.prog "strconv.ErrSyntax" = some #[.iface tp p]
  rng : ∃ tp p, w.var? Tryz.prog "strconv.ErrRange" = some #[.iface tp p]
  tab : Lib.TabIs Tryz.prog w "internal/strconv.uint64pow10" .u64 Lib.pow10Tab
/-- they all lie below -/
def gtop : Nat := max (max 5 6) 4 + 1
theorem var_lt {w : World} {n : String} {g : Nat} {cs : Array Value} (hg : Tryz.prog.globalNamed n = some g) (h : w.var? Tryz.prog n = some cs) : g < w.heap.size := by
  unfold World.var? at h
  rw [hg] at h
  rcases Nat.lt_or_ge g w.heap.size with h' | h'
  · exact h'
  · simp [Array.getElem?_eq_none h'] at h
theorem Env.top {w : World} (h : Env w) : gtop ≤ w.heap.size := by
  obtain ⟨⟨_, _, h1⟩, ⟨_, _, h2⟩, h3⟩ := h
  have e1 := var_lt gl_syn h1
  have e2 := var_lt gl_rng h2
  have e3 := var_lt gl_tab h3
  unfold gtop
  omega
theorem Env.below {w w' : World} {B : Nat} (h : Env w) (hb : Below B w w') (hB : gtop ≤ B) : Env w' := by
  obtain ⟨⟨t1, p1, h1⟩, ⟨t2, p2, h2⟩, h3⟩ := h
  unfold gtop at hB
  exact ⟨⟨t1, p1, var?_below hb gl_syn (by omega) h1⟩, ⟨t2, p2, var?_below hb gl_rng (by omega) h2⟩, var?_below hb gl_tab (by omega) h3⟩
theorem Env.new {w w' : World} (h : Env w) (hb : Below w.heap.size w w') : Env w' := h.below hb h.top
end Go.Proofs.YtpfgjiapdepdmaaGreatDoor
