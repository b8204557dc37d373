/- The walks of picked and name: a number as one of few; one of the names. -/
import Derived.Test.YtpfgjiapdepdmaaGreatDoorProg
import Derived.Test.YtpfgjiapdepdmaaGreatDoorWords
import Derived.WalkSpells
import Derived.WalkLawsBesides
import Derived.Shelf.Abstract
namespace Go.Proofs.YtpfgjiapdepdmaaGreatDoor
open Go.RowKit Go.Shelf

def pickedL (n m : Int) : Int := (if n < 0 then -(n + 1) else n) % m
theorem picked_any (n m : Int) (h1 : -9223372036854775808 ≤ n) (h2 : n ≤ 9223372036854775807) (hm : 0 < m) (hm2 : m ≤ 1000000) (w : World) :
    Calls Tryz.prog 11 #[.int .i64 n, .int .i64 m] w fun e w' => e = .returned (.int .i64 (pickedL n m)) ∧ w = w' := by
  by_cases hn : n < 0
  · go_enter Tryz.func11, Tryz.ntmps11
    go_wp2
    go_ret
    refine ⟨?_, rfl⟩
    show Ending.returned (Value.int .i64 (-((n + 1).tmod m))) = _
    congr 2
    unfold pickedL
    rw [if_pos hn, ← Int.neg_tmod, Int.tmod_eq_emod_of_nonneg (by omega)]
  · go_enter Tryz.func11, Tryz.ntmps11
    go_wp2
    go_ret
    refine ⟨?_, rfl⟩
    show Ending.returned (Value.int .i64 (n % m)) = _
    congr 2
    unfold pickedL
    rw [if_neg (by omega)]
theorem pickedL_lt (n m : Int) (hm : 0 < m) : 0 ≤ pickedL n m ∧ pickedL n m < m := by
  unfold pickedL
  exact ⟨Int.emod_nonneg _ (by omega), Int.emod_lt_of_pos _ hm⟩
def gname (i : Nat) : ByteArray := ([⟨#[97]⟩, ⟨#[98]⟩, ⟨#[98, 111, 120]⟩, ⟨#[100]⟩, ⟨#[101, 50]⟩, ⟨#[102, 117, 110]⟩] : List ByteArray).getD i ByteArray.empty
/-- the names lie where they were laid -/
def Glob (w : World) : Prop := ∀ i, i < 6 → w.cell? ⟨0, i, none⟩ = some (.string (gname i))
theorem Glob.below {w w' : World} {B : Nat} (h : Glob w) (hb : Below B w w') (hB : 0 < B) : Glob w' := fun i hi => (hb.cell (p := ⟨0, i, none⟩) hB).trans (h i hi)
theorem Glob.pos {w : World} (h : Glob w) : 0 < w.heap.size := World.block_lt_of_cell? w _ (h 0 (by omega))
theorem name_of (n : Int) (h1 : -9223372036854775808 ≤ n) (h2 : n ≤ 9223372036854775807) (w : World) (hg : Glob w) :
    Calls Tryz.prog 22 #[.int .i64 n] w fun e w' => e = .returned (.string (gname (pickedL n 6).toNat)) ∧ w = w' := by
  go_enter Tryz.func22, Tryz.ntmps22
  go_wp2_with fail
  refine (picked_any n 6 h1 h2 (by omega) (by omega) _).mono ?_
  rintro e w1 ⟨rfl, rfl⟩
  have hl := pickedL_lt n 6 (by omega)
  have hc := hg (pickedL n 6).toNat (by omega)
  replace hg := Lib.hid hg
  go_wp2_with fail
  go_ret
  exact ⟨rfl, rfl⟩
end Go.Proofs.YtpfgjiapdepdmaaGreatDoor
