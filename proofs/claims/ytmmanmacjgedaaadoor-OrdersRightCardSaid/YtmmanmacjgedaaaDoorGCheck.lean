/- The walk of graph.Check, where the nodes may be. -/
import Derived.Test.YtmmanmacjgedaaaDoorFind
import Derived.Test.YtmmanmacjgedaaaDoorIdent
import Derived.Deep.QuietTactic
import Derived.BigQuiet
namespace Go.Proofs.YtmmanmacjgedaaaDoor
open Go.RowKit Go.Shelf

theorem check1_any (s : ByteArray) (w : World) : Calls Tryd.prog 37 #[.string s] w fun e w' => e = .returned (.bool (!identB s)) ∧ Below w.heap.size w w' := by
  have hc := Lib.hid (fun W => ident_any s W)
  go_enter Tryd.func37, Tryd.ntmps37
  go_wp2_with fail
  refine (hc.out _).mono ?_
  rintro e w1 ⟨rfl, hb⟩
  go_wp2_with fail
  go_ret
  exact ⟨rfl, hb⟩
def AllIdent (l : List ByteArray) : Prop := ∀ j, j < l.length → identB (l.getD j ByteArray.empty) = true

theorem indexFuncS (A : Option Addr) (n cap : Nat) (l : List ByteArray) (w : World) (hs : l.length = n) (hn : n ≤ 1000000) (hr : Reads w w.heap.size 1 A n (strCells l)) (hall : AllIdent l) :
    Calls Tryd.prog 55 #[.slice A n cap, .func (.func 37) #[] #[]] w fun e w' => e = .returned (.int .i64 (-1)) ∧ Below w.heap.size w w' := by
  subst hs
  have hall' := Lib.hid hall
  clear hall
  go_enter Tryd.func55, Tryd.ntmps55
  go_wp2
  go_loopw [8] (fun i wr => ∃ k : Nat, k ≤ l.length ∧ i = .int .i64 k ∧ Below w.heap.size w wr) (fun i _ => l.length - (intOf i).toNat)
  case atStart => exact ⟨0, Nat.zero_le _, rfl, Below.refl _ _⟩
  case round =>
    obtain ⟨k, hk, rfl, hbel⟩ := hrel
    by_cases hlt : k < l.length
    · obtain ⟨b, off, u, rfl, hb, hu, hc⟩ := hr.at_ hlt
      obtain rfl := strCells_at l hu
      clear hu
      have hc' := (hbel.cell (p := ⟨b, _, none⟩) hb).trans hc
      clear hc
      have hid := hall'.out k hlt
      generalize l.getD k ByteArray.empty = x at hc' hid
      have hcx := fun W => check1_any x W
      rw [hid] at hcx
      replace hcx := Lib.hid hcx
      replace hid := Lib.hid hid
      replace hbel := Lib.hid hbel
      go_wp2_with fail
      refine (hcx.out _).mono ?_
      rintro e w1 ⟨rfl, hb1⟩
      go_wp2_with fail
      go_roundw
      case rel => exact ⟨k + 1, by omega, by go_num, hbel.out.trans (hb1.mono hbel.out.size)⟩
      case measure => simp [intOf]; omega
    · obtain rfl : k = l.length := by omega
      replace hbel := Lib.hid hbel
      go_wp2_with fail
      go_ret
      exact ⟨rfl, hbel.out⟩
theorem containsFuncS (A : Option Addr) (n cap : Nat) (l : List ByteArray) (w : World) (hs : l.length = n) (hn : n ≤ 1000000) (hr : Reads w w.heap.size 1 A n (strCells l)) (hall : AllIdent l) :
    Calls Tryd.prog 36 #[.slice A n cap, .func (.func 37) #[] #[]] w fun e w' => e = .returned (.bool false) ∧ Below w.heap.size w w' := by
  have hc := Lib.hid (indexFuncS A n cap l w hs hn hr hall)
  clear hs hr hall
  go_enter Tryd.func36, Tryd.ntmps36
  go_wp2_with fail
  refine hc.out.mono ?_
  rintro e w1 ⟨rfl, hb⟩
  go_wp2_with fail
  go_ret
  exact ⟨by simp, hb⟩

/-- nodes that may be -/
structure NodesOk (l : List Nd) : Prop where
  few : l.length ≤ 10
  asc : Asc l
  name : ∀ i, i < l.length → identB (nameAt l i) = true
  uses : ∀ i, (usesAt l i).length ≤ 24
  ident : ∀ i, i < l.length → AllIdent (usesAt l i)

theorem gcheck_any (A : Option Addr) (n cap : Nat) (l : List Nd) (w : World) (hn : l.length = n) (hok : NodesOk l) (hr : NodesR w w.heap.size A l) :
    Calls Tryd.prog 18 #[.slice A n cap] w fun e w' => e = .returned (.int .i64 0) ∧ Below w.heap.size w w' := by
  subst hn
  have hlim := hok.few
  have hok' := Lib.hid hok
  clear hok
  go_enter Tryd.func18, Tryd.ntmps18
  go_wp2_with fail
  go_loopw [10] (fun i wr => ∃ k : Nat, k ≤ l.length ∧ i = .int .i64 k ∧ Below w.heap.size w wr) (fun i _ => l.length - (intOf i).toNat)
  case atStart => exact ⟨0, Nat.zero_le _, rfl, Below.refl _ _⟩
  case round =>
    obtain ⟨k, hk, rfl, hbel⟩ := hrel
    by_cases hlt : k < l.length
    · obtain ⟨b, off, A', c, rfl, hblk, c0, c1, hu⟩ := hr.at_ hlt
      have d0 := (hbel.cell (p := ⟨b, _, none⟩) hblk).trans c0
      have d1 := (hbel.cell (p := ⟨b, _, none⟩) hblk).trans c1
      have hbs := hbel.size
      have hbw : b < wr.heap.size := by omega
      have hid := hok'.out.name k hlt
      have hul := hok'.out.uses k
      have hall := hok'.out.ident k hlt
      have huw := (hu.below hbel).more hbel.size
      obtain ⟨us, hus⟩ : ∃ us, us = usesAt l k := ⟨_, rfl⟩
      rw [← hus] at d1 hul hall huw
      obtain ⟨x, hx⟩ : ∃ x, x = nameAt l k := ⟨_, rfl⟩
      rw [← hx] at d0 hid
      have hci := fun W => ident_any x W
      rw [hid] at hci
      replace hci := Lib.hid hci
      replace hx := Lib.hid hx
      replace hus := Lib.hid hus
      replace hid := Lib.hid hid
      replace hall := Lib.hid hall
      replace hbel := Lib.hid hbel
      clear c0 c1 hu
      go_wp2_with fail
      refine (hci.out _).mono ?_
      rintro e w1 ⟨rfl, hb1⟩
      have n0 := cell_after hb1 (i := 0) rfl
      have n1 := cell_after hb1 (i := 1) rfl
      have hb1' := ((Below.refl wr.heap.size wr).alloc (Nat.le_refl _) (.cells #[.string x, .slice A' us.length c] 27)).trans (hb1.mono (by simp))
      have hs1 := hb1.size
      simp only [World.size_alloc] at hs1
      replace hb1 := Lib.hid hb1
      go_wp2_with fail
      refine (containsFuncS _ _ _ us _ rfl (by omega) ((huw.below hb1').more hb1'.size) hall.out).mono ?_
      rintro e w2 ⟨rfl, hb2⟩
      have m0 := (hb2.cell (p := ⟨wr.heap.size, 0, none⟩) (show wr.heap.size < w1.heap.size by omega)).trans n0
      have m1 := (hb2.cell (p := ⟨wr.heap.size, 1, none⟩) (show wr.heap.size < w1.heap.size by omega)).trans n1
      have hb12 := hb1'.trans (hb2.mono hb1'.size)
      clear n0 n1
      replace hb2 := Lib.hid hb2
      have hb0w2 := hbel.out.trans (hb12.mono hbs)
      replace hb12 := Lib.hid hb12
      replace hb1' := Lib.hid hb1'
      have hss := hb0w2.size
      rcases Nat.eq_zero_or_pos k with hk0 | hkp
      · subst hk0
        replace hb0w2 := Lib.hid hb0w2
        go_wp2_with fail
        go_quiet (fail)
        go_wp2_with fail
        go_roundw
        case rel => exact ⟨0 + 1, by omega, by go_num, below_drewN hb0w2.out _⟩
        case measure => simp [intOf]; omega
      · obtain ⟨j, rfl⟩ : ∃ j, k = j + 1 := ⟨k - 1, by omega⟩
        obtain ⟨bb, offb, A2, c2, hA2, hblk2, e0, -, -⟩ := hr.at_ (k := j) (by omega)
        have hbb : bb = b ∧ offb = off := by injection hA2 with h; injection h with h1 h2; exact ⟨h1.symm, h2.symm⟩
        obtain ⟨rfl, rfl⟩ := hbb
        have e1 := (hb0w2.cell (p := ⟨bb, _, none⟩) hblk2).trans e0
        have hasc := hok'.out.asc j (j + 1) (by omega) hlt
        rw [← hx.out] at hasc
        obtain ⟨y, hy⟩ : ∃ y, y = nameAt l j := ⟨_, rfl⟩
        rw [← hy] at e1 hasc
        have hless : Op.bytesLess y.toList x.toList = true := by
          rw [bytesLess_eq, ByteArray.toList_eq, ByteArray.toList_eq]
          exact decide_eq_true hasc
        clear e0 hasc hA2
        replace hy := Lib.hid hy
        replace hb0w2 := Lib.hid hb0w2
        have hbw2 : bb < w2.heap.size := by omega
        have hjp : decide ((0 : Int) < (j : Int) + 1) = true := by simp
        have hj0 : (0 : Int) ≤ (j : Int) := by omega
        have hjl : (j : Int) + 1 < (l.length : Int) := by omega
        go_wp2_with fail
        go_quiet (fail)
        go_wp2_with fail
        go_roundw
        case rel => exact ⟨j + 1 + 1, by omega, by go_num, below_drewN hb0w2.out _⟩
        case measure => simp [intOf]; omega
    · obtain rfl : k = l.length := by omega
      replace hbel := Lib.hid hbel
      go_wp2_with fail
      go_ret
      exact ⟨rfl, hbel.out⟩
end Go.Proofs.YtmmanmacjgedaaaDoor
