/- The walks of slices.SortFunc over nodes that stand by their names already: nothing turns. -/
import Derived.Test.YtmmanmacjgedaaaDoorFind
import Derived.Deep.RegionHeld3
import Derived.Deep.DrawnRows
namespace Go.Proofs.YtmmanmacjgedaaaDoor
open Go.RowKit Go.Shelf
attribute [local go_sem ↓] Go.wp_at_zero Go.wp_at_succ

theorem ocmp_any (a b : ByteArray) (u v : Value) (w : World) :
    Calls Tryd.prog 6 #[.agg #[.string a, u], .agg #[.string b, v]] w fun e w' => e = .returned (.int .i64 (cmpS a b)) ∧ Below w.heap.size w w' := by
  have hc := fun W => Tryd.strings_Compare a b W
  replace hc := Lib.hid hc
  go_enter Tryd.func6, Tryd.ntmps6
  go_wp2_with (go_at_call 7; refine (hc.out _).mono ?_; rintro e w' ⟨rfl, rfl⟩)
  go_ret
  exact ⟨rfl, ((Below.refl _ _).alloc (Nat.le_refl _) _).alloc (by simp) _⟩

theorem insN_any (A : Option Addr) (n cap : Nat) (l : List Nd) (w : World) (hn : l.length = n) (hlim : n ≤ 12) (hs : Asc l) (hr : NodesR w w.heap.size A l) :
    Calls Tryd.prog 24 #[.slice A n cap, .int .i64 0, .int .i64 (n : Int), .func (.func 6) #[] #[]] w fun e w' =>
      e = .returned (.tuple #[]) ∧ Below w.heap.size w w' := by
  subst hn
  have hs' := Lib.hid hs
  clear hs
  go_enter Tryd.func24, Tryd.ntmps24
  go_wp2_with fail
  go_loopw [8] (fun i wr => ∃ k : Nat, k ≤ l.length + 1 ∧ i = .int .i64 ((k : Int) + 1) ∧ Below w.heap.size w wr) (fun i _ => l.length + 2 - (intOf i).toNat)
  case atStart => exact ⟨0, Nat.zero_le _, rfl, Below.refl _ _⟩
  case round =>
    obtain ⟨k, hk, rfl, hbel⟩ := hrel
    by_cases hlt : k + 1 < l.length
    · obtain ⟨b, off, A', c, rfl, hblk, c0, c1, -⟩ := hr.at_ (k := k + 1) hlt
      obtain ⟨b2, off2, A2, c2, hA2, -, e0, e1, -⟩ := hr.at_ (k := k) (by omega)
      have hbb : b2 = b ∧ off2 = off := by injection hA2 with h; injection h with h1 h2; exact ⟨h1.symm, h2.symm⟩
      obtain ⟨rfl, rfl⟩ := hbb
      have d0 := (hbel.cell (p := ⟨b2, _, none⟩) hblk).trans c0
      have d1 := (hbel.cell (p := ⟨b2, _, none⟩) hblk).trans c1
      have f0 := (hbel.cell (p := ⟨b2, _, none⟩) hblk).trans e0
      have f1 := (hbel.cell (p := ⟨b2, _, none⟩) hblk).trans e1
      have hasc := hs'.out k (k + 1) (by omega) hlt
      clear c0 c1 e0 e1 hA2
      have hbs := hbel.size
      have hbw : b2 < wr.heap.size := by omega
      obtain ⟨x, hx⟩ : ∃ x, x = nameAt l (k + 1) := ⟨_, rfl⟩
      obtain ⟨y, hy⟩ : ∃ y, y = nameAt l k := ⟨_, rfl⟩
      rw [← hx] at d0 hasc
      rw [← hy] at f0 hasc
      have hcm : ¬ cmpS x y < 0 := by
        unfold cmpS
        rw [compareBytes_lt]
        exact fun h => absurd (List.lt_trans h hasc) (List.lt_irrefl _)
      clear hasc
      replace hx := Lib.hid hx
      replace hy := Lib.hid hy
      replace hbel := Lib.hid hbel
      have hk0 : (0 : Int) ≤ (k : Int) := by omega
      have hk1 : (k : Int) + 1 < (l.length : Int) := by omega
      have hk2 : (k : Int) < (l.length : Int) := by omega
      have hkp : decide ((0 : Int) < (k : Int) + 1) = true := by simp
      go_wp2_with fail
      go_loopw [9] (fun j wi => j = .int .i64 ((k : Int) + 1) ∧ wi = wr) (fun _ _ => 0)
      case atStart => exact ⟨rfl, rfl⟩
      case round =>
        obtain ⟨rfl, rfl⟩ := hrel
        go_wp2_with fail
        have hw1 : IntKind.i64.wrap (k : Int) = k := IntWalk.i64_in _ (by omega)
        have hw2 : IntKind.i64.wrap ((k : Int) + 1 - 1) = k := by rw [Int.add_sub_cancel]; exact hw1
        have hw3 : ((k : Int) + 1).toNat = k + 1 := by omega
        have hw4 : (0 : Int) ≤ (k : Int) + 1 := by omega
        go_region_held3 (fun w' => w'.cell? ⟨b2, off2 + (k + 1) * 2, none⟩ = some (.string x) ∧ w'.cell? ⟨b2, off2 + (k + 1) * 2 + 1, none⟩ = some (.slice A' (usesAt l (k + 1)).length c) ∧
            w'.cell? ⟨b2, off2 + k * 2, none⟩ = some (.string y) ∧ w'.cell? ⟨b2, off2 + k * 2 + 1, none⟩ = some (.slice A2 (usesAt l k).length c2))
          (first | go_keep | (refine ⟨(hb1.cell (p := ⟨b2, _, none⟩) hbw).trans d0, (hb1.cell (p := ⟨b2, _, none⟩) hbw).trans d1, (hb1.cell (p := ⟨b2, _, none⟩) hbw).trans f0, (hb1.cell (p := ⟨b2, _, none⟩) hbw).trans f1⟩))
          ((go_at_call 6; refine (ocmp_any x y _ _ _).mono ?_; rintro e w1 ⟨rfl, hb1⟩))
        have hb2 := hbel.out.drew.trans (Below.mono hb1 hbs)
        replace hb2 := Lib.hid hb2
        clear hw1 hw2 hw3 hw4 hb1
        go_wp2_with fail
        go_roundw
        case rel => exact ⟨k + 1, by omega, by go_num, hb2.out⟩
        case measure => simp [intOf]; omega
    · replace hbel := Lib.hid hbel
      go_wp2_with fail
      go_end0
      exact ⟨rfl, hbel.out⟩

theorem pdqN_any (A : Option Addr) (n cap : Nat) (l : List Nd) (lim : Int) (w : World) (hn : l.length = n) (hlim : n ≤ 12) (hs : Asc l) (hr : NodesR w w.heap.size A l) :
    Calls Tryd.prog 15 #[.slice A n cap, .int .i64 0, .int .i64 (n : Int), .int .i64 lim, .func (.func 6) #[] #[]] w fun e w' =>
      e = .returned (.tuple #[]) ∧ Below w.heap.size w w' := by
  have hi := Lib.hid (insN_any A n cap l w hn hlim hs hr)
  clear hs hr hn
  go_enter Tryd.func15, Tryd.ntmps15
  go_wp2_with fail
  refine wp_loop_once ?_
  go_wp2_with fail
  refine hi.out.mono ?_
  rintro e w1 ⟨rfl, hb⟩
  go_wp2_with fail
  refine bodyPost_ret (results_none rfl _ _ _) rfl ?_
  exact ⟨rfl, hb⟩
theorem bitsLen_any (x : Int) (h0 : 0 ≤ x) (h1 : x ≤ 1000000) (w : World) : Calls Tryd.prog 16 #[.int .u64 x] w fun e w' => (∃ y, e = .returned (.int .i64 y)) ∧ w = w' := by
  have hl := Lib.hid (fun W => Tryd.bits_Len64 x W h0 (by omega))
  go_enter Tryd.func16, Tryd.ntmps16
  go_wp2_with fail
  refine (hl.out _).mono ?_
  rintro e w1 ⟨rfl, rfl⟩
  go_wp2_with fail
  go_ret
  exact ⟨⟨_, rfl⟩, rfl⟩
theorem sortN_any (A : Option Addr) (n cap : Nat) (l : List Nd) (w : World) (hn : l.length = n) (hlim : n ≤ 12) (hs : Asc l) (hr : NodesR w w.heap.size A l) :
    Calls Tryd.prog 5 #[.slice A n cap, .func (.func 6) #[] #[]] w fun e w' =>
      e = .returned (.tuple #[]) ∧ Below w.heap.size w w' := by
  have hi := Lib.hid (fun lim => pdqN_any A n cap l lim w hn hlim hs hr)
  clear hs hr hn
  go_enter Tryd.func5, Tryd.ntmps5
  go_wp2_with fail
  refine (bitsLen_any _ (by omega) (by omega) _).mono ?_
  rintro e w1 ⟨⟨y, rfl⟩, rfl⟩
  go_wp2_with fail
  refine (hi.out y).mono ?_
  rintro e w1 ⟨rfl, hb⟩
  go_wp2_with fail
  go_end0
  exact ⟨rfl, hb⟩
end Go.Proofs.YtmmanmacjgedaaaDoor
