/- Nodes of the graph in memory; the walks of find's closure and of slices.BinarySearchFunc over nodes. -/
import Derived.Test.YtmmanmacjgedaaaDoorWords
import Derived.Test.YtmmanmacjgedaaaDoorStr1
import Derived.Test.YtmmanmacjgedaaaDoorCmp
import Derived.Test.YtmmanmacjgedaaaDoorShelf
namespace Go.Proofs.YtmmanmacjgedaaaDoor
open Go.RowKit Go.Shelf

structure Nd where
  name : ByteArray
  uses : List ByteArray

/-- the name, and the uses, of node k -/
def nameAt (l : List Nd) (k : Nat) : ByteArray := (l.getD k ⟨ByteArray.empty, []⟩).name
def usesAt (l : List Nd) (k : Nat) : List ByteArray := (l.getD k ⟨ByteArray.empty, []⟩).uses

/-- the slice '.slice A n c' reads as the nodes l -/
def NodesR (w : World) (B : Nat) (A : Option Addr) (l : List Nd) : Prop :=
  0 < l.length → ∃ b off, A = some ⟨b, off, none⟩ ∧ b < B ∧ ∀ i, i < l.length → ∃ A' c, w.cell? ⟨b, off + i * 2, none⟩ = some (.string (nameAt l i)) ∧
    w.cell? ⟨b, off + i * 2 + 1, none⟩ = some (.slice A' (usesAt l i).length c) ∧ Reads w B 1 A' (usesAt l i).length (strCells (usesAt l i))

section
variable {w w' : World} {B : Nat} {A : Option Addr} {l : List Nd}
theorem NodesR.below (h : NodesR w B A l) (hb : Below B w w') : NodesR w' B A l := by
  intro hn
  obtain ⟨b, off, hA, hlt, hc⟩ := h hn
  refine ⟨b, off, hA, hlt, fun i hi => ?_⟩
  obtain ⟨A', c, h1, h2, h3⟩ := hc i hi
  exact ⟨A', c, (hb.cell (p := ⟨b, _, none⟩) hlt).trans h1, (hb.cell (p := ⟨b, _, none⟩) hlt).trans h2, h3.below hb⟩
theorem NodesR.more {B' : Nat} (h : NodesR w B A l) (hB : B ≤ B') : NodesR w B' A l := by
  intro hn
  obtain ⟨b, off, hA, hlt, hc⟩ := h hn
  refine ⟨b, off, hA, by omega, fun i hi => ?_⟩
  obtain ⟨A', c, h1, h2, hr⟩ := hc i hi
  exact ⟨A', c, h1, h2, hr.more hB⟩
theorem NodesR.at_ (h : NodesR w B A l) {k : Nat} (hk : k < l.length) : ∃ b off A' c, A = some ⟨b, off, none⟩ ∧ b < B ∧ w.cell? ⟨b, off + k * 2, none⟩ = some (.string (nameAt l k)) ∧
    w.cell? ⟨b, off + k * 2 + 1, none⟩ = some (.slice A' (usesAt l k).length c) ∧ Reads w B 1 A' (usesAt l k).length (strCells (usesAt l k)) := by
  obtain ⟨b, off, hA, hlt, hc⟩ := h (by omega)
  obtain ⟨A', c, h1, h2, hr⟩ := hc k hk
  exact ⟨b, off, A', c, hA, hlt, h1, h2, hr⟩
end

/-- how a text stands to another -/
def cmpS (a b : ByteArray) : Int := Lib.compareBytes a.data.toList b.data.toList

theorem find1_any (nm x : ByteArray) (v : Value) (w : World) :
    Calls Tryd.prog 57 #[.agg #[.string nm, v], .string x] w fun e w' => e = .returned (.int .i64 (cmpS nm x)) ∧ Below w.heap.size w w' := by
  have hc := fun W => Tryd.strings_Compare nm x W
  have hc := Lib.hid hc
  go_enter Tryd.func57, Tryd.ntmps57
  go_wp2_with (go_at_call 7; refine (hc.out _).mono ?_; rintro e w' ⟨rfl, rfl⟩)
  go_ret
  exact ⟨rfl, (Below.refl _ _).alloc (Nat.le_refl _) _⟩

/-- where a name is, or would be -/
structure Place (l : List Nd) (x : ByteArray) (i : Nat) : Prop where
  le : i ≤ l.length
  lo : ∀ k, k < l.length → k < i → cmpS (nameAt l k) x < 0
  hi : ∀ k, k < l.length → i ≤ k → 0 ≤ cmpS (nameAt l k) x
/-- the nodes stand by their names -/
def Sorted (l : List Nd) (x : ByteArray) : Prop := ∀ a b, a < l.length → b < l.length → a ≤ b → cmpS (nameAt l b) x < 0 → cmpS (nameAt l a) x < 0
/-- the search under way: all below i are too small, all from j on are not -/
def Between (l : List Nd) (x : ByteArray) (i j : Nat) : Prop :=
  i ≤ j ∧ j ≤ l.length ∧ (∀ k, k < l.length → k < i → cmpS (nameAt l k) x < 0) ∧ (∀ k, k < l.length → j ≤ k → 0 ≤ cmpS (nameAt l k) x)
theorem Between.left {l : List Nd} {x : ByteArray} {i j h : Nat} (hb : Between l x i j) (hs : Sorted l x) (hj : h < j) (hl : h < l.length) (hc : cmpS (nameAt l h) x < 0) : Between l x (h + 1) j := by
  refine ⟨by omega, hb.2.1, fun k hk hlt => ?_, hb.2.2.2⟩
  exact hs k h hk hl (by omega) hc
theorem Between.right {l : List Nd} {x : ByteArray} {i j h : Nat} (hb : Between l x i j) (hs : Sorted l x) (hi : i ≤ h) (hl : h < l.length) (hc : ¬ cmpS (nameAt l h) x < 0) : Between l x i h := by
  refine ⟨hi, by have := hb.2.1; omega, hb.2.2.1, fun k hk hle => ?_⟩
  rcases Int.lt_or_le (cmpS (nameAt l k) x) 0 with h' | h'
  · exact absurd (hs h k hl hk hle h') hc
  · exact h'
theorem Between.place {l : List Nd} {x : ByteArray} {i : Nat} (hb : Between l x i i) : Place l x i := ⟨hb.2.1, hb.2.2.1, hb.2.2.2⟩
def foundAt (l : List Nd) (x : ByteArray) (i : Nat) : Bool := decide (i < l.length) && cmpS (nameAt l i) x == 0

theorem bsearch (A : Option Addr) (n cap : Nat) (l : List Nd) (x : ByteArray) (w : World) (hn : l.length = n) (hlim : n ≤ 1000000) (hs : Sorted l x) (hr : NodesR w w.heap.size A l) :
    Calls Tryd.prog 56 #[.slice A n cap, .string x, .func (.func 57) #[] #[]] w fun e w' =>
      ∃ i, Place l x i ∧ e = .returned (.tuple #[.int .i64 (i : Int), .bool (foundAt l x i)]) ∧ Below w.heap.size w w' := by
  subst hn
  have hs' := Lib.hid hs
  clear hs
  go_enter Tryd.func56, Tryd.ntmps56
  go_wp2
  go_loopw [9, 10] (fun i j wr => ∃ a b : Nat, i = .int .i64 a ∧ j = .int .i64 b ∧ Between l x a b ∧ Below w.heap.size w wr) (fun i j _ => (intOf j).toNat - (intOf i).toNat)
  case atStart => exact ⟨0, l.length, rfl, rfl, ⟨by omega, by omega, fun k _ h => absurd h (by omega), fun k h h' => absurd h (by omega)⟩, Below.refl _ _⟩
  case round =>
    obtain ⟨a, b, rfl, rfl, hbt, hbel⟩ := hrel
    have hab := hbt.1
    have hbl := hbt.2.1
    by_cases hlt : a < b
    · obtain ⟨bl, off, A', c, rfl, hblk, c0, c1, -⟩ := hr.at_ (k := (a + b) / 2) (by omega)
      have d0 := (hbel.cell (p := ⟨bl, _, none⟩) hblk).trans c0
      have d1 := (hbel.cell (p := ⟨bl, _, none⟩) hblk).trans c1
      clear c0 c1
      have hbel' := Lib.hid hbel
      clear hbel
      have hbt' := Lib.hid hbt
      clear hbt
      by_cases hc : cmpS (nameAt l ((a + b) / 2)) x < 0
      · have hn := Lib.hid (hbt'.out.left hs'.out (h := (a + b) / 2) (by omega) (by omega) hc)
        go_wp2_with fail
        refine (find1_any _ _ _ _).mono ?_
        rintro e w1 ⟨rfl, hb1⟩
        go_wp2_with fail
        go_roundw
        case rel => exact ⟨(a + b) / 2 + 1, b, by go_num, rfl, hn.out, hbel'.out.trans (hb1.mono hbel'.out.size)⟩
        case measure => simp [intOf]; omega
      · have hn := Lib.hid (hbt'.out.right hs'.out (h := (a + b) / 2) (by omega) (by omega) hc)
        go_wp2_with fail
        refine (find1_any _ _ _ _).mono ?_
        rintro e w1 ⟨rfl, hb1⟩
        go_wp2_with fail
        go_roundw
        case rel => exact ⟨a, (a + b) / 2, rfl, by go_num, hn.out, hbel'.out.trans (hb1.mono hbel'.out.size)⟩
        case measure => simp [intOf]; omega
    · obtain rfl : a = b := by omega
      by_cases hl : a < l.length
      · obtain ⟨bl, off, A', c, rfl, hblk, c0, c1, -⟩ := hr.at_ (k := a) hl
        have d0 := (hbel.cell (p := ⟨bl, _, none⟩) hblk).trans c0
        have d1 := (hbel.cell (p := ⟨bl, _, none⟩) hblk).trans c1
        clear c0 c1
        have hbel' := Lib.hid hbel
        clear hbel
        have hbt' := Lib.hid hbt
        clear hbt
        have hf := Lib.hid (show foundAt l x a = (cmpS (nameAt l a) x == 0) by simp [foundAt, hl])
        go_wp2_with fail
        refine (find1_any _ _ _ _).mono ?_
        rintro e w1 ⟨rfl, hb1⟩
        go_wp2_with fail
        go_ret2
        exact ⟨a, hbt'.out.place, by rw [hf.out]; rfl, hbel'.out.trans (hb1.mono hbel'.out.size)⟩
      · have hbel' := Lib.hid hbel
        clear hbel
        have hbt' := Lib.hid hbt
        clear hbt
        have hf := Lib.hid (show foundAt l x a = false by simp [foundAt, hl])
        go_wp2_with fail
        go_ret2
        exact ⟨a, hbt'.out.place, by rw [hf.out]; rfl, hbel'.out⟩
end Go.Proofs.YtmmanmacjgedaaaDoor
