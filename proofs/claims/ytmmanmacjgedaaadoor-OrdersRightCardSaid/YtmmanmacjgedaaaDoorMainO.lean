/- The walk of the law on the order. -/
import Derived.Test.YtmmanmacjgedaaaDoorMainN
namespace Go.Proofs.YtmmanmacjgedaaaDoor
open Go.RowKit Go.Shelf
attribute [local go_sem ↓] Go.wp_at_zero Go.wp_at_succ

/-- what the raw numbers read as -/
def RawR (w : World) (A : Option Addr) (n : Nat) (av : Nat → Int) : Prop :=
  0 < n → ∃ b off, A = some ⟨b, off, none⟩ ∧ b < w.heap.size ∧ ∀ k, k < n → w.cell? ⟨b, off + k * 4 + 1, none⟩ = some (.int .i64 (av k)) ∧ -9223372036854775808 ≤ av k ∧ av k ≤ 9223372036854775807
def usesUp (av : Nat → Int) (i q : Nat) : List ByteArray := (List.range q).map fun j => gname (pickedL (av (i + 6 * j)) 6).toNat
theorem usesUp_succ (av : Nat → Int) (i q : Nat) : usesUp av i (q + 1) = usesUp av i q ++ [gname (pickedL (av (i + 6 * q)) 6).toNat] := by simp [usesUp, List.range_succ]
theorem usesUp_length (av : Nat → Int) (i q : Nat) : (usesUp av i q).length = q := by simp [usesUp]
/-- how many raw numbers the place i takes -/
def many (n i : Nat) : Nat := (n - i + 5) / 6
def nodeOf (av : Nat → Int) (n i : Nat) : Nd := ⟨gname i, (usesUp av i (many n i)).take 24⟩
def nodesUp (av : Nat → Int) (n k : Nat) : List Nd := (List.range k).map (nodeOf av n)
theorem nodesUp_succ (av : Nat → Int) (n k : Nat) : nodesUp av n (k + 1) = nodesUp av n k ++ [nodeOf av n k] := by simp [nodesUp, List.range_succ]
theorem nodesUp_length (av : Nat → Int) (n k : Nat) : (nodesUp av n k).length = k := by simp [nodesUp]

theorem index_any (A : Option Addr) (n c : Nat) (l : List ByteArray) (x : ByteArray) (w : World) (hn : l.length = n) (hlim : n ≤ 1000000) (hr : Reads w w.heap.size 1 A n (strCells l)) :
    Calls Tryd.prog 13 #[.slice A n c, .string x] w fun e w' => e = .returned (.int .i64 (Lib.idxOfS l x)) ∧ w = w' := by
  subst hn
  rcases Nat.eq_zero_or_pos l.length with h0 | h0
  · have hl : l = [] := List.eq_nil_of_length_eq_zero h0
    subst hl
    exact (Tryd.slices_Index_string_empty A c x w).mono fun e w' ⟨h1, h2⟩ => ⟨h1, h2.symm⟩
  · obtain ⟨b, off, rfl, hb, hc⟩ := hr.2 h0
    have h := Tryd.slices_Index_string b off l.length c l x w (Nat.le_refl _) (by omega) (fun j hj => hc j _ (by
      simp [strCells, List.getD_eq_getElem?_getD, hj]))
    rw [List.take_length] at h
    exact h.mono fun e w' ⟨h1, h2⟩ => ⟨h1, h2.symm⟩

theorem gname_asc : ∀ i j, i < 6 → j < 6 → i < j → (gname i).data.toList < (gname j).data.toList := by
  intro i j hi hj hij
  have h1 : i = 0 ∨ i = 1 ∨ i = 2 ∨ i = 3 ∨ i = 4 := by omega
  have h2 : j = 1 ∨ j = 2 ∨ j = 3 ∨ j = 4 ∨ j = 5 := by omega
  rcases h1 with rfl | rfl | rfl | rfl | rfl <;> rcases h2 with rfl | rfl | rfl | rfl | rfl <;> first | omega | decide
theorem gname_less : ∀ i j, i < 6 → j < 6 → i < j → Op.bytesLess (gname j).toList (gname i).toList = false := by
  intro i j hi hj hij
  have h1 : i = 0 ∨ i = 1 ∨ i = 2 ∨ i = 3 ∨ i = 4 := by omega
  have h2 : j = 1 ∨ j = 2 ∨ j = 3 ∨ j = 4 ∨ j = 5 := by omega
  rcases h1 with rfl | rfl | rfl | rfl | rfl <;> rcases h2 with rfl | rfl | rfl | rfl | rfl <;> first | omega | (rw [ByteArray.toList_eq, ByteArray.toList_eq]; decide)
theorem gname_ident : ∀ i, i < 6 → identB (gname i) = true := by
  intro i hi
  have h1 : i = 0 ∨ i = 1 ∨ i = 2 ∨ i = 3 ∨ i = 4 ∨ i = 5 := by omega
  have e0 : identB (gname 0) = true := by kernel_rfl
  have e1 : identB (gname 1) = true := by kernel_rfl
  have e2 : identB (gname 2) = true := by kernel_rfl
  have e3 : identB (gname 3) = true := by kernel_rfl
  have e4 : identB (gname 4) = true := by kernel_rfl
  have e5 : identB (gname 5) = true := by kernel_rfl
  rcases h1 with rfl | rfl | rfl | rfl | rfl | rfl <;> assumption

theorem nodesUp_name (av : Nat → Int) (n : Nat) {i : Nat} (hi : i < 6) : nameAt (nodesUp av n 6) i = gname i := by
  simp [nameAt, nodesUp, List.getD_eq_getElem?_getD, hi, nodeOf]
theorem nodesUp_uses (av : Nat → Int) (n : Nat) {i : Nat} (hi : i < 6) : usesAt (nodesUp av n 6) i = (usesUp av i (many n i)).take 24 := by
  simp [usesAt, nodesUp, List.getD_eq_getElem?_getD, hi, nodeOf]
theorem nodesUp_uses_ge (av : Nat → Int) (n : Nat) {i : Nat} (hi : 6 ≤ i) : usesAt (nodesUp av n 6) i = [] := by
  simp [usesAt, nodesUp, List.getD_eq_getElem?_getD, hi]
theorem nodes_ok (av : Nat → Int) (n : Nat) : NodesOk (nodesUp av n 6) := by
  have hl := nodesUp_length av n 6
  refine ⟨by omega, ?_, ?_, ?_, ?_⟩
  · intro a b hab hb
    rw [hl] at hb
    rw [nodesUp_name av n (by omega), nodesUp_name av n hb]
    exact gname_asc a b (by omega) hb hab
  · intro i hi
    rw [hl] at hi
    rw [nodesUp_name av n hi]
    exact gname_ident i hi
  · intro i
    rcases Nat.lt_or_ge i 6 with h | h
    · rw [nodesUp_uses av n h, List.length_take]; omega
    · rw [nodesUp_uses_ge av n h]; simp
  · intro i hi
    rw [hl] at hi
    rw [nodesUp_uses av n hi]
    intro j hj
    rw [List.length_take] at hj
    rw [List.getD_eq_getElem?_getD, List.getElem?_take, if_pos (by omega)]
    unfold usesUp
    rw [List.getElem?_map, List.getElem?_range (by simpa [usesUp] using (show j < (usesUp av i (many n i)).length by omega))]
    have hp := pickedL_lt (av (i + 6 * j)) 6 (by omega)
    exact gname_ident _ (by omega)

set_option maxRecDepth 100000 in
set_option maxHeartbeats 8000000 in
theorem main_any (A : Option Addr) (n c : Nat) (av : Nat → Int) (w : World) (hg : Glob w) (hn : n * 32 ≤ 140737488355328) (hraw : RawR w A n av) :
    Calls Tryd.prog 3 #[.slice A n c] w fun e w' => e = .returned (.bool true) ∧ Below w.heap.size w w' := by
  have g0 := hg 0 (by omega)
  have g1 := hg 1 (by omega)
  have g2 := hg 2 (by omega)
  have g3 := hg 3 (by omega)
  have g4 := hg 4 (by omega)
  have g5 := hg 5 (by omega)
  have hp := hg.pos
  replace hg := Lib.hid hg
  replace hraw := Lib.hid hraw
  go_enter Tryd.func3, Tryd.ntmps3
  go_wp2_with fail
  clear g0 g1 g2 g3 g4 g5
  go_loopw [3, 19] (fun v i wr => ∃ k : Nat, k ≤ 6 ∧ i = .int .i64 k ∧ OwnN wr w.heap.size v (nodesUp av n k) ∧ Below w.heap.size w wr) (fun _ i _ => 6 - (intOf i).toNat)
  case atStart => exact ⟨0, by omega, rfl, OwnN.nil _ _, Below.refl _ _⟩
  case round =>
    obtain ⟨k, hk, rfl, hown, hbel⟩ := hrel
    by_cases hlt : k < 6
    · have hix := index_names k hlt wr
      have hkd : decide ((k : Int) < 6) = true := by simp; omega
      obtain ⟨nm, hnm⟩ : ∃ nm, nm = gname k := ⟨_, rfl⟩
      rw [← hnm] at hix
      replace hnm := Lib.hid hnm
      replace hown := Lib.hid hown
      have hsz := hbel.size
      replace hbel := Lib.hid hbel
      go_wp2_with fail
      clear hix
      obtain ⟨wo, rfl⟩ : ∃ wo : World, wo = wr := ⟨_, rfl⟩
      go_loopw [7] (fun j wi => ∃ (q : Nat) (u : Value), q ≤ many n k ∧ j = .int .i64 ((k + 6 * q : Nat) : Int) ∧ Blk wi wo.heap.size 27 #[.string nm, u] ∧ OwnS wi (wo.heap.size + 1) u (usesUp av k q) ∧ Below wo.heap.size wo wi)
        (fun j _ => n + 6 - (intOf j).toNat)
      case atStart => 
        refine ⟨0, _, Nat.zero_le _, rfl, Blk.new _ _ _, World.ownsRow_nil _ _ _ _, ?_⟩
        exact (Below.refl _ _).alloc (Nat.le_refl _) _
      case round =>
        obtain ⟨q, u, hq, rfl, hblk, hu, hbi⟩ := hrel
        by_cases hlq : k + 6 * q < n
        · obtain ⟨b, off, rfl, hb, hcell⟩ := hraw.out (by omega)
          obtain ⟨c0, h1, h2⟩ := hcell (k + 6 * q) hlq
          have d0 := ((hbel.out.cell (p := ⟨b, _, none⟩) hb).trans c0)
          have hbo : b < wo.heap.size := by omega
          have d1 := (hbi.cell (p := ⟨b, _, none⟩) hbo).trans d0
          have hnc := fun W (h : Glob W) => name_of (av (k + 6 * q)) h1 h2 W h
          have hgi := (hg.out.below hbel.out hp).below hbi (by omega)
          have hu0 : wr.cell? ⟨wo.heap.size, 1, none⟩ = some u := hblk.cell 1
          have hus := usesUp_succ av k q
          have hul := usesUp_length av k q
          have hbl := hblk.lt
          obtain ⟨l0, hl0⟩ : ∃ l0, l0 = usesUp av k q := ⟨_, rfl⟩
          rw [← hl0] at hu hus hul
          obtain ⟨x, hx⟩ : ∃ x, x = gname (pickedL (av (k + 6 * q)) 6).toNat := ⟨_, rfl⟩
          rw [← hx] at hus hnc
          obtain ⟨m, hm⟩ : ∃ m, m = k + 6 * q := ⟨_, rfl⟩
          rw [← hm] at hlq d1 hnc ⊢
          replace hl0 := Lib.hid hl0
          replace hx := Lib.hid hx
          replace hus := Lib.hid hus
          replace hnc := Lib.hid hnc
          replace hgi := Lib.hid hgi
          replace hu := Lib.hid hu
          replace hbi := Lib.hid hbi
          replace hblk := Lib.hid hblk
          clear c0 d0 h1 h2 hcell
          have hk0 : (0 : Int) ≤ (m : Int) := by omega
          have hk1 : (m : Int) < (n : Int) := by omega
          have hmn : m + 6 < 9000000000000 := by omega
          have hmt : (m : Int).toNat = m := by omega
          have hlen16 : (l0.length + 1) * 16 ≤ 140737488355328 := by omega
          have hf0 : wr.frozen? ⟨wo.heap.size, 1, none⟩ = false := hblk.out.frozen 1
          have hf1 : (wr.alloc (.cells #[.string x] 9)).drew.frozen? ⟨wo.heap.size, 1, none⟩ = false := (hblk.out.alloc _).drew.frozen 1
          have hc1 : (wr.alloc (.cells #[.string x] 9)).drew.cell? ⟨wo.heap.size, 1, none⟩ = some u := (hblk.out.alloc _).drew.cell 1
          have hb5 : wo.heap.size < (wr.alloc (.cells #[.string x] 9)).heap.size := by simp; omega
          have hb6 : b < (wr.alloc (.cells #[.string x] 9)).heap.size := by simp; omega
          have hbo' : b ≤ wo.heap.size := by omega
          replace hm := Lib.hid hm
          go_wp2_with fail
          go_region_law (first
              | (refine step_append_str (by rfl) _ _ (by rfl) _ (wo.heap.size + 1) u l0 x wr.heap.size (by rfl) (by rfl) (by exact (hu.out.drew.alloc _)) (by exact cell_of_row _ _ _ _ _ _ (heap_alloc_new _ _)) hlen16 (by simp; omega) (wr.heap.size + 1) (by simp) ?_; intro g5 c5 w5 hown5 hg5 hr5 hat5; have hr5' : ∀ k, k ≤ wo.heap.size → some k ≠ u.ownBlock := (fun k hk e => by have := hr5 _ e.symm; omega); have e5 := (hg5.cell_far ⟨wo.heap.size, 1, none⟩ hb5 (hr5' _ (Nat.le_refl _))).trans hc1; have e6 := (hg5.frozen_far ⟨wo.heap.size, 1, none⟩ hb5 (hr5' _ (Nat.le_refl _))).trans hf1)
              | (go_simp; go_at_call 4; refine (hnc.out _ (by exact hgi.out)).mono ?_; rintro e w1 ⟨rfl, rfl⟩))
          all_goals
            have k1 := (((hblk.out.alloc (.cells #[.string x] 9)).drew).grown hg5 (hr5' _ (Nat.le_refl _))).set_ 1 (.slice (some ⟨g5, 0, none⟩) (l0.length + 1) c5)
            have hne5 : (Value.slice (some ⟨g5, 0, none⟩) (l0.length + 1) c5).ownBlock ≠ some wo.heap.size := by
              intro e
              have e2 : g5 = wo.heap.size := by simpa [Value.ownBlock] using e
              rcases hat5 with h | h
              · exact hr5' _ (by omega) h.symm
              · omega
            have k2 : OwnS (w5.setCell ⟨wo.heap.size, 1, none⟩ (.slice (some ⟨g5, 0, none⟩) (l0.length + 1) c5)) (wo.heap.size + 1) (.slice (some ⟨g5, 0, none⟩) (l0.length + 1) c5) (l0 ++ [x]) :=
              World.ownsRow.kept hown5 (only_setCell (only_refl w5 (some wo.heap.size)) (Or.inl rfl) _) (Or.inr hne5)
            have k3 := hbi.out.trans (((((Below.refl wo.heap.size wr).alloc (by omega) (.cells #[.string x] 9)).drew).grown hg5 (by simp; omega) (fun k hk => by have := hr5 _ hk; omega)).setCell (p := ⟨wo.heap.size, 1, none⟩) (Nat.le_refl _) (.slice (some ⟨g5, 0, none⟩) (l0.length + 1) c5))
            rw [hul] at k1 k2 k3
            have hmany : q + 1 ≤ many n k := by
              have := hm.out
              unfold many
              omega
            replace k1 := Lib.hid k1
            replace k2 := Lib.hid k2
            replace k3 := Lib.hid k3
            clear hown5 hg5 hr5 hat5 hr5' e5 e6 hne5 hf1 hc1 hb5 hb6
            go_wp2_with fail
            go_roundw
            case rel => exact ⟨q + 1, _, hmany, by have := hm.out; go_num, k1.out, by rw [hus.out]; exact k2.out, k3.out⟩
            case measure => have := hm.out; simp [intOf]; omega
        · have hqm : q = many n k := by
            unfold many at hq ⊢
            omega
          have hul := usesUp_length av k q
          obtain ⟨us, hus⟩ : ∃ us, us = usesUp av k q := ⟨_, rfl⟩
          rw [← hus] at hu hul
          obtain ⟨A', c', rfl, hcap, hru, hfru⟩ := hu.form
          obtain ⟨bl, hbl⟩ : ∃ bl, bl = wo.heap.size := ⟨_, rfl⟩
          have hul2 : us.length = q := hul
          rw [hul] at hcap hru hfru hblk
          have hbl0 := hblk.cell 0
          have hbl1 := hblk.cell 1
          have hfz := hblk.frozen 1
          have hbw := hblk.lt
          replace hblk := Lib.hid hblk
          replace hus := Lib.hid hus
          replace hru := Lib.hid hru
          replace hfru := Lib.hid hfru
          replace hbi := Lib.hid hbi
          clear hu
          have hu3 := hown.out.lt
          have hnu := nodesUp_succ av n k
          have hno : nodeOf av n k = ⟨nm, us.take 24⟩ := by unfold nodeOf; rw [hnm.out, hus.out, hqm]
          rw [hno] at hnu
          have hnul := nodesUp_length av n k
          obtain ⟨lk, hlk⟩ : ∃ lk, lk = nodesUp av n k := ⟨_, rfl⟩
          rw [← hlk] at hown hnu hnul
          have hkm : ¬ (k + 6 * q) < n := hlq
          obtain ⟨m, hm⟩ : ∃ m, m = k + 6 * q := ⟨_, rfl⟩
          rw [← hm] at hkm ⊢
          replace hm := Lib.hid hm
          replace hqm := Lib.hid hqm
          replace hq := Lib.hid hq
          replace hlk := Lib.hid hlk
          replace hno := Lib.hid hno
          replace hnu := Lib.hid hnu
          clear hlq
          have hk1 : decide ((m : Int) < (n : Int)) = false := by simp; omega
          by_cases h24 : 24 < q
          · have hk2 : decide ((24 : Int) < (q : Int)) = true := by simp; omega
            have b1 := hbi.out.setCell (p := ⟨wo.heap.size, 1, none⟩) (Nat.le_refl _) (.slice A' 24 c')
            have p1 := hown.out.below b1
            have p2 : Reads (wr.setCell ⟨wo.heap.size, 1, none⟩ (.slice A' 24 c')) wr.heap.size 1 A' 24 (strCells (us.take 24)) := by
              have h := hru.out.take_ (k := 24) (by omega)
              rw [Nat.mul_one, ← strCells_take] at h
              exact reads_apart h _ (fun ad e hn => by have := hfru.out ad e (by omega); simp only; omega)
            have p3 : ∀ ad, A' = some ad → 0 < 24 → u3.ownBlock ≠ some ad.block := fun ad e _ h => by
              have h1 := hfru.out ad e (by omega)
              have h2 := hu3 _ h
              omega
            have hs3 : (wr.setCell ⟨wo.heap.size, 1, none⟩ (.slice A' 24 c')).heap.size = wr.heap.size := by simp [World.setCell]
            have hl24 : (us.take 24).length = 24 := by simp; omega
            replace b1 := Lib.hid b1
            replace p1 := Lib.hid p1
            replace p2 := Lib.hid p2
            replace p3 := Lib.hid p3
            replace hs3 := Lib.hid hs3
            go_wp2_with (at_builtin; refine append_node (by rfl) _ _ (by rfl) (wr.setCell ⟨wo.heap.size, 1, none⟩ (.slice A' 24 c')) w.heap.size u3 lk nm A' 24 c' (us.take 24) wr.heap.size (by rfl) (by rfl) hs3.out p1.out hl24 (by rw [hs3.out]; exact p2.out) p3.out (by omega) (by rw [hs3.out]; omega) ?_; intro v' w' hown' hb' hsz')
            rw [hnu.out.symm] at hown'
            have hbf := hbel.out.trans ((b1.out.mono hsz).trans hb')
            replace hown' := Lib.hid hown'
            replace hbf := Lib.hid hbf
            go_roundw
            case rel => exact ⟨k + 1, by omega, by go_num, hown'.out, hbf.out⟩
            case measure => simp [intOf]; omega
          · have hk2 : decide ((24 : Int) < (q : Int)) = false := by simp; omega
            have p1 := hown.out.below hbi.out
            have p3 : ∀ ad, A' = some ad → 0 < q → u3.ownBlock ≠ some ad.block := fun ad e hn h => by
              have h1 := hfru.out ad e hn
              have h2 := hu3 _ h
              omega
            have hl24 : (us.take 24) = us := List.take_of_length_le (by omega)
            rw [hl24] at hnu
            replace p1 := Lib.hid p1
            replace p3 := Lib.hid p3
            replace hl24 := Lib.hid hl24
            go_wp2_with (at_builtin; refine append_node (by rfl) _ _ (by rfl) wr w.heap.size u3 lk nm A' q c' us wr.heap.size (by rfl) (by rfl) rfl p1.out hul2 hru.out p3.out (by omega) (by omega) ?_; intro v' w' hown' hb' hsz')
            rw [hnu.out.symm] at hown'
            have hbf := hbel.out.trans ((hbi.out.mono hsz).trans hb')
            replace hown' := Lib.hid hown'
            replace hbf := Lib.hid hbf
            go_roundw
            case rel => exact ⟨k + 1, by omega, by go_num, hown'.out, hbf.out⟩
            case measure => simp [intOf]; omega
    · obtain rfl : k = 6 := by omega
      have hok := nodes_ok av n
      have hlen := nodesUp_length av n 6
      have hlaw := fun i (hi : i < (nodesUp av n 6).length) u => order_law hok.asc i hi u
      have hnd := names_nodup hok.asc
      have hbl := both_length (nodesUp av n 6)
      have hrs : ∀ k, k + 1 < (names (nodesUp av n 6) (rounds (nodesUp av n 6)).1).length →
          Op.bytesLess ((names (nodesUp av n 6) (rounds (nodesUp av n 6)).1).getD (k + 1) ByteArray.empty).toList ((names (nodesUp av n 6) (rounds (nodesUp av n 6)).1).getD k ByteArray.empty).toList = false := by
        intro k hk
        obtain ⟨i, j, hij, hj, e1, e2⟩ := rounds_sorted k hk
        rw [hlen] at hj
        rw [e1, e2, nodesUp_name av n hj, nodesUp_name av n (by omega)]
        exact gname_less i j (by omega) hj hij
      have hl1 : (names (nodesUp av n 6) (order (nodesUp av n 6)).1).length = (order (nodesUp av n 6)).1.length := by simp [names]
      have hl2 : (names (nodesUp av n 6) (rounds (nodesUp av n 6)).1).length = (rounds (nodesUp av n 6)).1.length := by simp [names]
      obtain ⟨nl, hnl⟩ : ∃ nl, nl = nodesUp av n 6 := ⟨_, rfl⟩
      rw [← hnl] at hown hok hlen hlaw hnd hbl hrs hl1 hl2
      obtain ⟨An, cn, hv, hR⟩ : ∃ An cn, u3 = .slice An 6 cn ∧ NodesR wr wr.heap.size An nl := by
        have h := hown
        obtain ⟨cells, h1, h2⟩ := h
        have hx : ∃ A c, u3 = .slice A nl.length c := by
          rcases h1.2 with ⟨e, h3⟩ | ⟨g, cap, cur, e, _⟩
          · have := h1.1
            rw [h3] at this
            simp at this
            omega
          · exact ⟨_, _, e⟩
        obtain ⟨A2, c2, e⟩ := hx
        rw [hlen] at e
        subst e
        exact ⟨A2, c2, rfl, hown.nodesR⟩
      subst hv
      obtain ⟨l1, hl1e⟩ : ∃ l1, l1 = names nl (order nl).1 := ⟨_, rfl⟩
      obtain ⟨l2, hl2e⟩ : ∃ l2, l2 = names nl (rounds nl).1 := ⟨_, rfl⟩
      rw [← hl1e] at hlaw hnd hl1
      rw [← hl2e] at hnd hrs hl2
      have hsum : l1.length + l2.length = 6 := by omega
      have hsz := hbel.size
      have hsort := sortN_any An 6 cn nl wr hlen (by omega) hok.asc hR
      have hord := fun W (hb : Below wr.heap.size wr W) => order_any An 6 cn nl W hlen hok ((hR.below hb).more hb.size)
      rw [← hl1e, ← hl2e] at hord
      replace hl1e := Lib.hid hl1e
      replace hl2e := Lib.hid hl2e
      replace hnl := Lib.hid hnl
      replace hok := Lib.hid hok
      replace hlaw := Lib.hid hlaw
      replace hnd := Lib.hid hnd
      replace hrs := Lib.hid hrs
      replace hsort := Lib.hid hsort
      replace hord := Lib.hid hord
      replace hbel := Lib.hid hbel
      clear hown hbl hl1 hl2
      go_wp2_with fail
      refine hsort.out.mono ?_
      rintro e w1 ⟨rfl, hb1⟩
      go_wp2_with fail
      refine (hord.out _ hb1).mono ?_
      rintro e w2 ⟨v1, v2, rfl, hb2, ho1, ho2⟩
      obtain ⟨A1, c1, rfl, hc1, r1, -⟩ := ho1.form
      obtain ⟨A2, c2, rfl, hc2, r2, -⟩ := ho2.form
      have hb12 := hb1.trans (hb2.mono hb1.size)
      have hs2 : wr.heap.size ≤ w2.heap.size := hb12.size
      have hcat := concat_any A1 A2 c1 c2 l1 l2 w2.heap.size (w2.alloc (.cells #[.slice A1 l1.length c1, .slice A2 l2.length c2] 25)) (by omega) (by omega)
        (cell_of_row _ _ 0 _ _ (0, 0) (heap_alloc_new _ _)) (cell_of_row _ _ 1 _ _ (0, 0) (heap_alloc_new _ _)) ((r1.alloc (Nat.le_refl _) _).more (by simp)) ((r2.alloc (Nat.le_refl _) _).more (by simp))
      have q1 : Reads (w2.alloc (.cells #[.slice A1 l1.length c1, .slice A2 l2.length c2] 25)) (w2.alloc (.cells #[.slice A1 l1.length c1, .slice A2 l2.length c2] 25)).heap.size 1 A1 l1.length (strCells l1) := (r1.alloc (Nat.le_refl _) _).more (by simp)
      have q2 : Reads (w2.alloc (.cells #[.slice A1 l1.length c1, .slice A2 l2.length c2] 25)) (w2.alloc (.cells #[.slice A1 l1.length c1, .slice A2 l2.length c2] 25)).heap.size 1 A2 l2.length (strCells l2) := (r2.alloc (Nat.le_refl _) _).more (by simp)
      have hb12' := hb12.alloc hs2 (.cells #[.slice A1 l1.length c1, .slice A2 l2.length c2] 25)
      replace hcat := Lib.hid hcat
      replace q1 := Lib.hid q1
      replace q2 := Lib.hid q2
      replace hb12' := Lib.hid hb12'
      have hsa : (w2.alloc (.cells #[.slice A1 l1.length c1, .slice A2 l2.length c2] 25)).heap.size = w2.heap.size + 1 := by simp
      replace hsa := Lib.hid hsa
      clear ho1 ho2 r1 r2 hb1 hb2 hb12 hsort hord
      go_wp2_with fail
      refine hcat.out.mono ?_
      rintro e w3 ⟨v3, rfl, ho3, hb3⟩
      have q13 := q1.out.below hb3
      have q23 := q2.out.below hb3
      have hb3' := hb12'.out.trans (hb3.mono (by rw [hsa.out]; omega))
      have hs3 := hb3.size
      rw [hsa.out] at ho3 q13 q23 hs3
      replace q13 := Lib.hid q13
      replace q23 := Lib.hid q23
      replace ho3 := Lib.hid ho3
      replace hb3' := Lib.hid hb3'
      clear hb3 hcat q1 q2
      go_wp2_with fail
      refine (sortS_any v3 (w2.heap.size + 1) (l1 ++ l2) w3 ho3.out hs3 (by simp; omega)).mono ?_
      rintro e w4 ⟨rfl, l', hperm, ho4, hb4⟩
      have q14 := q13.out.below hb4
      have q24 := q23.out.below hb4
      have hb4' := hb3'.out.trans (hb4.mono (by omega))
      have hnd' := hperm.nodup_iff.2 hnd.out
      have hln' : l'.length = 6 := by have := hperm.length_eq; simp at this; omega
      have hs4 := hb4.size
      replace q14 := Lib.hid q14
      replace q24 := Lib.hid q24
      replace ho4 := Lib.hid ho4
      replace hb4' := Lib.hid hb4'
      replace hnd' := Lib.hid hnd'
      clear hb4 q13 q23 ho3 hb3' hperm
      go_wp2_with fail
      refine (isSorted_any A2 l2.length c2 l2 w4 rfl (by omega) (q24.out.more (by omega)) (fun k hk => hrs.out k hk)).mono ?_
      rintro e w5 ⟨rfl, hb5⟩
      have ho5 := ho4.out.below hb5
      have q15 := q14.out.below (hb5.mono (by omega))
      have hb5' := hb4'.out.trans (hb5.mono (by omega))
      have hs5 := hb5.size
      replace q15 := Lib.hid q15
      replace ho5 := Lib.hid ho5
      replace hb5' := Lib.hid hb5'
      clear hb5 q14 q24 ho4 hb4'
      go_wp2_with fail
      refine (compactS_any v3 (w2.heap.size + 1) l' w5 ho5.out (by omega) hnd'.out (by omega)).mono ?_
      rintro e w6 ⟨⟨A6, c6, rfl⟩, hb6⟩
      rw [hln']
      have q16 := q15.out.below hb6
      have hb6' := hb5'.out.trans (hb6.mono (by omega))
      have hs6 := hb6.size
      have hR6 := (hR.below hb6').more hb6'.size
      replace q16 := Lib.hid (q16.more (B' := w6.heap.size) (by omega))
      replace hb6' := Lib.hid hb6'
      clear hb6 q15 ho5 hb5' hR
      go_wp2_with fail
      have hb6w := hbel.out.trans (hb6'.out.mono hsz)
      have hs6w := hb6'.out.size
      replace hb6w := Lib.hid hb6w
      clear hbel hb6' hnd' hrs hb12' hsa
      go_loopw [85] (fun i wi => ∃ k : Nat, k ≤ 6 ∧ i = .int .i64 k ∧ Below w6.heap.size w6 wi) (fun i _ => 6 - (intOf i).toNat)
      case atStart => exact ⟨0, by omega, rfl, Below.refl _ _⟩
      case round =>
        obtain ⟨k, hk, rfl, hbi⟩ := hrel
        by_cases hlt : k < 6
        · have hkd : decide ((k : Int) < 6) = true := by simp; omega
          have hk0 : (0 : Int) ≤ (k : Int) := by omega
          have hk1 : (k : Int) < 6 := by omega
          obtain ⟨b, off, A', c', rfl, hblk, e0, e1, hU⟩ := hR6.at_ (k := k) (by omega)
          have d0 := (hbi.cell (p := ⟨b, _, none⟩) hblk).trans e0
          have d1 := (hbi.cell (p := ⟨b, _, none⟩) hblk).trans e1
          have hlk := hlaw.out k (by omega)
          have hul := hok.out.uses k
          have qi := q16.out.below hbi
          have hUi := hU.below hbi
          have hsi := hbi.size
          obtain ⟨nm, hnm⟩ : ∃ nm, nm = nameAt nl k := ⟨_, rfl⟩
          obtain ⟨us, hus⟩ : ∃ us, us = usesAt nl k := ⟨_, rfl⟩
          rw [← hnm] at d0 hlk
          rw [← hus] at d1 hlk hUi hul
          replace hnm := Lib.hid hnm
          replace hus := Lib.hid hus
          replace hlk := Lib.hid hlk
          obtain ⟨wo, rfl⟩ : ∃ wo : World, wo = wr := ⟨_, rfl⟩
          have qa := ((qi.more hsi).alloc (Nat.le_refl _) (.cells #[.string nm, .slice A' us.length c'] 27)).more (B' := (wo.alloc (.cells #[.string nm, .slice A' us.length c'] 27)).heap.size) (by simp)
          have hUa := ((hUi.more hsi).alloc (Nat.le_refl _) (.cells #[.string nm, .slice A' us.length c'] 27)).more (B' := (wo.alloc (.cells #[.string nm, .slice A' us.length c'] 27)).heap.size) (by simp)
          have hba := hbi.alloc hsi (.cells #[.string nm, .slice A' us.length c'] 27)
          replace qa := Lib.hid qa
          replace hUa := Lib.hid hUa
          replace hba := Lib.hid hba
          clear e0 e1 hU hbi qi hUi
          go_wp2_with fail
          refine (index_any A1 l1.length c1 l1 nm _ rfl (by omega) qa.out).mono ?_
          rintro e w7 ⟨rfl, rfl⟩
          go_wp2_with fail
          obtain ⟨wa, hwa⟩ : ∃ wa, wa = wo.alloc (.cells #[.string nm, .slice A' us.length c'] 27) := ⟨_, rfl⟩
          rw [← hwa] at qa hUa hba ⊢
          obtain ⟨at_, hat⟩ : ∃ at_, at_ = Lib.idxOfS l1 nm := ⟨_, rfl⟩
          rw [← hat] at hlk ⊢
          replace hwa := Lib.hid hwa
          replace hat := Lib.hid hat
          go_loopw [96] (fun j wi => ∃ p : Nat, p ≤ us.length ∧ j = .int .i64 p ∧ wi = wa) (fun j _ => us.length - (intOf j).toNat)
          case atStart => exact ⟨0, by omega, rfl, rfl⟩
          case round =>
            obtain ⟨p, hp, rfl, rfl⟩ := hrel
            by_cases hpl : p < us.length
            · obtain ⟨b2, off2, u2, rfl, hb2, hu2, e2⟩ := hUa.out.at_ (k := p) hpl
              have hx : u2 = .string (us.getD p ByteArray.empty) := by
                unfold strCells at hu2
                rw [List.getElem?_map] at hu2
                obtain ⟨y, hy, rfl⟩ := Option.map_eq_some_iff.1 hu2
                simp [hy]
              subst hx
              have hmem : us.getD p ByteArray.empty ∈ us := by
                rw [List.getD_eq_getElem?_getD, List.getElem?_eq_getElem hpl]
                exact List.getElem_mem hpl
              obtain ⟨x, hx⟩ : ∃ x, x = us.getD p ByteArray.empty := ⟨_, rfl⟩
              rw [← hx] at e2 hmem
              have hlx := hlk.out x hmem
              obtain ⟨kx, hkx⟩ : ∃ kx, kx = Lib.idxOfS l1 x := ⟨_, rfl⟩
              have hix := index_any A1 l1.length c1 l1 x wr rfl (by omega) qa.out
              rw [← hkx] at hlx hix
              replace hix := Lib.hid hix
              replace hkx := Lib.hid hkx
              replace hx := Lib.hid hx
              have hp0 : (0 : Int) ≤ (p : Int) := by omega
              have hp1 : (p : Int) < (us.length : Int) := by omega
              have hpd : decide ((p : Int) < (us.length : Int)) = true := by simp; omega
              clear hu2
              by_cases h0 : 0 ≤ at_
              · have hd1 : decide ((0 : Int) ≤ at_) = true := by simp; omega
                have hd2 : decide (at_ ≤ kx) = false := by have := hlx h0; simp; omega
                clear hlx
                go_wp2_with fail
                refine hix.out.mono ?_
                rintro e w8 ⟨rfl, rfl⟩
                go_wp2_with fail
                go_roundw
                case rel => exact ⟨p + 1, by omega, by go_num, trivial⟩
                case measure => simp [intOf]; omega
              · have hd1 : decide ((0 : Int) ≤ at_) = false := by simp; omega
                clear hlx
                go_wp2_with fail
                refine hix.out.mono ?_
                rintro e w8 ⟨rfl, rfl⟩
                go_wp2_with fail
                go_roundw
                case rel => exact ⟨p + 1, by omega, by go_num, trivial⟩
                case measure => simp [intOf]; omega
            · obtain rfl : p = us.length := by omega
              go_wp2_with fail
              go_roundw
              case rel => exact ⟨k + 1, by omega, by go_num, hba.out⟩
              case measure => simp [intOf]; omega
        · obtain rfl : k = 6 := by omega
          replace hbi := Lib.hid hbi
          go_wp2_with fail
          go_ret
          exact ⟨rfl, hb6w.out.trans (hbi.out.mono (by omega))⟩
end Go.Proofs.YtmmanmacjgedaaaDoor
