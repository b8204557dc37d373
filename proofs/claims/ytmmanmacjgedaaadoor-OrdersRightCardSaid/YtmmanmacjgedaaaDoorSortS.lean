/- The walks of slices.Sort, slices.IsSorted and slices.Compact over texts that the call made. -/
import Derived.Test.YtmmanmacjgedaaaDoorConcat
import Derived.Test.YtmmanmacjgedaaaDoorShelf
import Derived.Lib.OwnBridge
import Derived.BigQuiet
import Derived.Deep.RegionHeld3
import Derived.Deep.DrawnRows
namespace Go.Proofs.YtmmanmacjgedaaaDoor
open Go.RowKit Go.Shelf
attribute [local go_sem ↓] Go.wp_at_zero Go.wp_at_succ

def raw (l : List ByteArray) : List (List UInt8) := l.map (·.data.toList)
def unraw (l : List (List UInt8)) : List ByteArray := l.map fun x => ⟨x.toArray⟩
theorem unraw_raw (l : List ByteArray) : unraw (raw l) = l := by
  unfold unraw raw
  rw [List.map_map]
  conv => rhs; rw [← List.map_id l]
  apply List.map_congr_left
  intro x _
  simp
theorem raw_unraw (l : List (List UInt8)) : raw (unraw l) = l := by
  unfold unraw raw
  rw [List.map_map]
  conv => rhs; rw [← List.map_id l]
  apply List.map_congr_left
  intro x _
  simp
theorem strCells_raw (l : List ByteArray) : strCells l = (raw l).map encStr := (Lib.map_encStr l).symm
theorem raw_length (l : List ByteArray) : (raw l).length = l.length := by simp [raw]

theorem below_sortgrow {B : Nat} {w0 w : World} (h : Below B w0 w) (os : Array Obj) (hB : B ≤ w.heap.size) : Below B w0 (Sort.grow w os) :=
  ⟨h.os, h.tape, h.output, by rw [Sort.size_grow]; have := h.size; omega, fun k hk => by rw [Sort.heap_grow_old w os (by omega)]; exact h.block k hk⟩

/-- slices.Sort of a slice of texts that the call made: the same texts, in some order -/
theorem sortS_any (v : Value) (B : Nat) (l : List ByteArray) (w : World) (ho : OwnS w B v l) (hB : B ≤ w.heap.size) (hlen : l.length ≤ 1000000) :
    Calls Tryd.prog 10 #[v] w fun e w' => e = .returned (.tuple #[]) ∧ ∃ l', l'.Perm l ∧ OwnS w' B v l' ∧ Below B w w' := by
  by_cases hv : v = .slice none 0 0
  · subst hv
    have hl : l = [] := by
      rcases ho.2 with ⟨_, h⟩ | ⟨g, cap, cur, h, _⟩
      · simpa [strCells] using h
      · cases h
    subst hl
    refine (Tryd.slices_Sort_string_none none 0 w).mono ?_
    rintro e w' ⟨rfl, rfl⟩
    exact ⟨rfl, [], List.Perm.refl _, ho, Below.refl _ _⟩
  · have ho' := ho
    unfold OwnS at ho
    rw [strCells_raw] at ho
    obtain ⟨g, cap, rfl, hg, hlt, hnc, hcm, hl, hH⟩ := Lib.holds_of_ownsRow ho hv
    have hh := Tryd.slices_Sort_string g 0 cap (raw l) w hH hlt (by rw [raw_length]; omega)
    rw [raw_length] at hh
    refine hh.mono ?_
    rintro e w' ⟨rfl, n, os, rfl⟩
    refine ⟨rfl, unraw ((raw l).mergeSort fun x y => decide (x ≤ y)), ?_, ?_, ?_⟩
    · have h1 := List.mergeSort_perm (raw l) (fun x y => decide (x ≤ y))
      have h2 := h1.map (fun x => (⟨x.toArray⟩ : ByteArray))
      have h3 := unraw_raw l
      unfold unraw at h3 ⊢
      rw [h3] at h2
      exact h2
    · have h1 := Lib.ownsRow_putRow (q := n) (k := l.length) ho (ys := (raw l).mergeSort fun x y => decide (x ≤ y)) (by rw [List.length_mergeSort, raw_length]) (Nat.le_refl _)
      have hlen2 : (unraw ((raw l).mergeSort fun x y => decide (x ≤ y))).length = l.length := by simp [unraw, raw]
      have h2 : OwnS (Sort.putRow encStr (Sort.ahead w n) g 0 ((raw l).mergeSort fun x y => decide (x ≤ y)).toArray) B (.slice (some ⟨g, 0, none⟩) l.length cap) (unraw ((raw l).mergeSort fun x y => decide (x ≤ y))) := by
        unfold OwnS
        rw [hlen2, strCells_raw, raw_unraw]
        rwa [List.take_of_length_le (by rw [List.length_mergeSort, raw_length]; omega)] at h1
      refine h2.below ?_
      exact below_sortgrow (Below.refl _ _) os (Nat.le_refl _)
    · refine below_sortgrow (Lib.below_putRow (Below.refl _ _) hg) os ?_
      simpa [Sort.putRow, Sort.mapBlock, Sort.ahead] using hB

/-- slices.Compact of texts of which no two are alike: the slice as it is -/
theorem compactS_any (v : Value) (B : Nat) (l : List ByteArray) (w : World) (ho : OwnS w B v l) (hB : B ≤ w.heap.size) (hnd : l.Nodup) (hlen : l.length ≤ 1000000) :
    Calls Tryd.prog 12 #[v] w fun e w' => (∃ A c, e = .returned (.slice A l.length c)) ∧ Below B w w' := by
  by_cases hv : v = .slice none 0 0
  · subst hv
    have hl : l = [] := by
      rcases ho.2 with ⟨_, h⟩ | ⟨g, cap, cur, h, _⟩
      · simpa [strCells] using h
      · cases h
    subst hl
    refine (Tryd.slices_Compact_string_empty none 0 w).mono ?_
    rintro e w' ⟨rfl, rfl⟩
    exact ⟨⟨_, _, rfl⟩, Below.refl _ _⟩
  · have ho' := ho
    unfold OwnS at ho
    rw [strCells_raw] at ho
    obtain ⟨g, cap, rfl, hg, hlt, hnc, hcm, hl, hH⟩ := Lib.holds_of_ownsRow ho hv
    have hnd' : (raw l).Nodup := by
      unfold raw
      refine (List.nodup_iff_pairwise_ne.1 hnd).map _ ?_ 
      intro a b hab h
      apply hab
      cases a; cases b
      simp only at h
      congr 1
      exact Array.toList_inj.1 h
    have hc : Lib.compact (raw l) = raw l := by
      refine Lib.compact_all _ fun j hj => ?_
      unfold Lib.keeps
      rcases Nat.eq_zero_or_pos j with h0 | h0
      · simp [h0]
      · simp only [decide_eq_true_eq]
        right
        have hj1 : j - 1 < (raw l).length := by omega
        rw [getElem!_pos (raw l).toArray j (by simpa using hj), getElem!_pos (raw l).toArray (j - 1) (by simpa using hj1)]
        intro h
        have h2 := List.pairwise_iff_getElem.1 hnd' (j - 1) j hj1 hj (by omega)
        exact h2 (by simpa using h.symm)
    have hh := Tryd.slices_Compact_string g 0 cap (raw l) w hH (by rw [raw_length]; omega) (by rw [raw_length]; omega)
    rw [hc, raw_length] at hh
    refine hh.mono ?_
    rintro e w' ⟨rfl, q, rfl⟩
    exact ⟨⟨_, _, rfl⟩, Lib.below_putRow (Below.refl _ _) hg⟩

theorem isNaN_any (a : ByteArray) (w : World) : Calls Tryd.prog 47 #[.string a] w fun e w' => e = .returned (.bool false) ∧ w = w' := by
  go_enter Tryd.func47, Tryd.ntmps47
  go_wp2_with fail
  go_ret
  exact ⟨by simp, rfl⟩
theorem less_any (a b : ByteArray) (w : World) :
    Calls Tryd.prog 23 #[.string a, .string b] w fun e w' => e = .returned (.bool (Op.bytesLess a.toList b.toList)) ∧ w = w' := by
  go_enter Tryd.func23, Tryd.ntmps23
  go_wp2_with fail
  refine (isNaN_any a _).mono ?_
  rintro e w1 ⟨rfl, rfl⟩
  go_wp2_with fail
  go_ret
  exact ⟨rfl, rfl⟩

/-- slices.IsSorted where no text stands before the one ahead of it -/
theorem isSorted_any (A : Option Addr) (n c : Nat) (l : List ByteArray) (w : World) (hn : l.length = n) (hlim : n ≤ 1000000) (hr : Reads w w.heap.size 1 A n (strCells l))
    (hs : ∀ k, k + 1 < n → Op.bytesLess (l.getD (k + 1) ByteArray.empty).toList (l.getD k ByteArray.empty).toList = false) :
    Calls Tryd.prog 11 #[.slice A n c] w fun e w' => e = .returned (.bool true) ∧ Below w.heap.size w w' := by
  have hs' := Lib.hid hs
  clear hs
  go_enter Tryd.func11, Tryd.ntmps11
  go_wp2_with fail
  go_loopw [3] (fun i wr => ∃ k : Nat, k ≤ n ∧ i = .int .i64 ((k : Int) - 1) ∧ Below w.heap.size w wr) (fun i _ => (intOf i + 1).toNat)
  case atStart => exact ⟨n, Nat.le_refl _, rfl, Below.refl _ _⟩
  case round =>
    obtain ⟨k, hk, rfl, hbel⟩ := hrel
    by_cases hlt : 2 ≤ k
    · obtain ⟨m, rfl⟩ : ∃ m, k = m + 2 := ⟨k - 2, by omega⟩
      obtain ⟨b, off, u1, rfl, hb, hu1, c1⟩ := hr.at_ (k := m + 1) (by omega)
      obtain ⟨b', off', u0, hA, _, hu0, c0⟩ := hr.at_ (k := m) (by omega)
      injection hA with hA
      injection hA with h1 h2
      subst h1; subst h2
      have hx := hs'.out m (by omega)
      have e1 : u1 = .string (l.getD (m + 1) ByteArray.empty) := by
        unfold strCells at hu1
        rw [List.getElem?_map] at hu1
        obtain ⟨y, hy, rfl⟩ := Option.map_eq_some_iff.1 hu1
        simp [hy]
      have e0 : u0 = .string (l.getD m ByteArray.empty) := by
        unfold strCells at hu0
        rw [List.getElem?_map] at hu0
        obtain ⟨y, hy, rfl⟩ := Option.map_eq_some_iff.1 hu0
        simp [hy]
      subst e1; subst e0
      obtain ⟨x, hxx⟩ : ∃ x, x = l.getD (m + 1) ByteArray.empty := ⟨_, rfl⟩
      obtain ⟨y, hyy⟩ : ∃ y, y = l.getD m ByteArray.empty := ⟨_, rfl⟩
      rw [← hxx] at c1 hx
      rw [← hyy] at c0 hx
      have d1 := (hbel.cell (p := ⟨b, _, none⟩) hb).trans c1
      have d0 := (hbel.cell (p := ⟨b, _, none⟩) hb).trans c0
      replace hxx := Lib.hid hxx
      replace hyy := Lib.hid hyy
      replace hx := Lib.hid hx
      replace hbel := Lib.hid hbel
      clear c0 c1 hu0 hu1
      have hm1 : ((m + 2 : Nat) : Int) - 1 = (m : Int) + 1 := by omega
      rw [hm1]
      have hk0 : (0 : Int) ≤ (m : Int) := by omega
      have hk1 : (m : Int) + 1 < (n : Int) := by omega
      have hk2 : (m : Int) < (n : Int) := by omega
      have hkp : decide ((0 : Int) < (m : Int) + 1) = true := by simp
      go_wp2_with fail
      have hw1 : IntKind.i64.wrap (m : Int) = m := IntWalk.i64_in _ (by omega)
      have hw2 : IntKind.i64.wrap ((m : Int) + 1 - 1) = m := by rw [Int.add_sub_cancel]; exact hw1
      have hw3 : ((m : Int) + 1).toNat = m + 1 := by omega
      have hw4 : (0 : Int) ≤ (m : Int) + 1 := by omega
      go_region_held3 (fun w' => w'.cell? ⟨b, off + (m + 1), none⟩ = some (.string x) ∧ w'.cell? ⟨b, off + m, none⟩ = some (.string y))
        (first | go_keep | exact ⟨d1, d0⟩)
        ((go_at_call 23; refine (less_any x y _).mono ?_; rintro e w1 ⟨rfl, rfl⟩))
      clear hw1 hw2 hw3 hw4
      rw [hx.out]
      go_wp2_with fail
      go_roundw
      case rel => exact ⟨m + 1, by omega, by go_num, below_drewN hbel.out _⟩
      case measure => simp [intOf]; omega
    · replace hbel := Lib.hid hbel
      have hkp : decide ((0 : Int) < (k : Int) - 1) = false := by simp; omega
      go_wp2_with fail
      go_ret
      exact ⟨rfl, hbel.out⟩
end Go.Proofs.YtmmanmacjgedaaaDoor
