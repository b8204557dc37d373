/- The walks of slices.Grow of nothing, and of slices.Concat of two lists of texts. -/
import Derived.Test.YtmmanmacjgedaaaDoorOrder
import Derived.Lib.AppendZeros
namespace Go.Proofs.YtmmanmacjgedaaaDoor
open Go.RowKit Go.Shelf

theorem grow_zero (w : World) : Calls Tryd.prog 21 #[.slice none 0 0, .int .i64 0] w fun e w' => e = .returned (.slice none 0 0) ∧ w = w' := by
  go_enter Tryd.func21, Tryd.ntmps21
  go_wp2
  go_ret
  exact ⟨rfl, rfl⟩
theorem grow_some (n : Nat) (h0 : 0 < n) (h1 : n ≤ 1000000) (w : World) : Calls Tryd.prog 21 #[.slice none 0 0, .int .i64 (n : Int)] w fun e w' =>
    ∃ v, e = .returned v ∧ OwnS w' w.heap.size v [] ∧ Below w.heap.size w w' := by
  obtain ⟨i0, hi, hz0, hz1, hz2⟩ := info_parts info_str
  have hrun := Lib.hid (Lib.run_append_nil_zeros (P := Tryd.prog) w 25 3 25 9 i0 _ .i64 .i64 Tryd.underlying25 Tryd.underlying3 hi hz0 n h0 (by rw [hz1]; omega) (by omega) (by rw [hz2]; omega))
  go_enter Tryd.func21, Tryd.ntmps21
  go_wp2_with (at_builtin; refine Lib.wpList_append_run _ (by rfl) _ _ _ _ (by rfl) _ _ (by rfl) (by rfl) _ _ hrun.out ?_)
  refine bodyPost_ret (v := .slice (some ⟨w.heap.size, 0, none⟩) 0 (grownCap w n 0 9)) (by simp [results, Tryd.results21, go_sem]) rfl ⟨_, rfl, ?_, ?_⟩
  · have hge := grownCap_ge w n 0 9
    have hle := grownCap_le_maxLen w n 0 9 (by unfold maxLen; omega)
    exact World.ownsRow_made w _ _ (Nat.le_refl _) hle (by simp [size_zeroCells]; omega)
  · exact ((Below.refl _ _).alloc (Nat.le_refl _) _).drew

theorem grow_any (x : Int) (h0 : 0 ≤ x) (h1 : x ≤ 1000000) (w : World) : Calls Tryd.prog 21 #[.slice none 0 0, .int .i64 x] w fun e w' =>
    ∃ v, e = .returned v ∧ OwnS w' w.heap.size v [] ∧ Below w.heap.size w w' := by
  obtain ⟨n, rfl⟩ := Int.eq_ofNat_of_zero_le h0
  rcases Nat.eq_zero_or_pos n with rfl | hp
  · exact (grow_zero w).mono fun e w' ⟨he, hw⟩ => ⟨_, he, by rw [← hw]; exact World.ownsRow_nil _ _ _ _, by rw [← hw]; exact Below.refl _ _⟩
  · exact grow_some n hp (by omega) w
theorem append_strs {ops : Array Oper} {rest : List Oper} {o : Oper} {a : Act} {Q : Exit → Act → World → Prop}
    (hgd : o.guard = none) (s x : Operand) (ho : o.op = .call { callee := .builtin .append, args := #[s, x], argTypes := #[25, 25] })
    (W : World) (B : Nat) (v : Value) (l : List ByteArray) (B2 : Nat) (A : Option Addr) (m c : Nat) (l2 : List ByteArray) (hs : a.eval s = v) (hx : a.eval x = .slice A m c)
    (hown : OwnS W B v l) (hm : l2.length = m) (hr : Reads W B2 1 A m (strCells l2)) (hlen : l.length + m ≤ 1000000) (hB : B ≤ W.heap.size)
    (h : ∀ v' w', OwnS w' B v' (l ++ l2) → Below B W w' → W.heap.size ≤ w'.heap.size → wpList Tryd.prog ops Q rest (a.put o.dst v') w') :
    wpList Tryd.prog ops Q (o :: rest) a W := by
  obtain ⟨i0, hi, hz0, hz1, hz2⟩ := info_parts info_str
  subst hm
  refine append_many 25 9 i0 _ 1 16 Tryd.underlying25 hi hz0 hz1 hz2 rfl (by omega) hgd s x ho W B v l.length (strCells l) B2 A l2.length c (strCells l2) hs hx hown hr ?_ (by unfold maxLen; omega) (by omega) hB ?_
  · intro u hu
    unfold strCells at hu
    obtain ⟨y, _, rfl⟩ := List.mem_map.1 hu
    rfl
  · intro v' w' hown' hb hsz
    refine h v' w' ?_ hb hsz
    unfold OwnS
    have e : strCells (l ++ l2) = strCells l ++ strCells l2 := by simp [strCells]
    rw [e, List.length_append]
    exact hown'

/-- two slices of texts, one behind the other -/
theorem concat_any (A1 A2 : Option Addr) (c1 c2 : Nat) (l1 l2 : List ByteArray) (b : Nat) (w : World) (h1 : l1.length ≤ 1000) (h2 : l2.length ≤ 1000)
    (e0 : w.cell? ⟨b, 0, none⟩ = some (.slice A1 l1.length c1)) (e1 : w.cell? ⟨b, 1, none⟩ = some (.slice A2 l2.length c2))
    (r1 : Reads w w.heap.size 1 A1 l1.length (strCells l1)) (r2 : Reads w w.heap.size 1 A2 l2.length (strCells l2)) :
    Calls Tryd.prog 9 #[.slice (some ⟨b, 0, none⟩) 2 2] w fun e w' => ∃ v, e = .returned v ∧ OwnS w' w.heap.size v (l1 ++ l2) ∧ Below w.heap.size w w' := by
  go_enter Tryd.func9, Tryd.ntmps9
  go_wp2_with fail
  refine wp_loop_rounds 3 ?_
  rw [rounds_succ]
  go_wp2_with fail
  rw [rounds_succ]
  go_wp2_with fail
  rw [rounds_succ]
  go_wp2_with fail
  refine (grow_any _ (by omega) (by omega) _).mono ?_
  rintro e w1 ⟨v, rfl, hown, hb1⟩
  have hbw : b < w.heap.size := World.block_lt_of_cell? w _ e0
  have d0 := (hb1.cell (p := ⟨b, _, none⟩) hbw).trans e0
  have d1 := (hb1.cell (p := ⟨b, _, none⟩) hbw).trans e1
  have q1 := r1.below hb1
  have q2 := r2.below hb1
  have hs1 := hb1.size
  replace hb1 := Lib.hid hb1
  replace hown := Lib.hid hown
  clear e0 e1 r1 r2
  go_wp2_with fail
  refine wp_loop_rounds 3 ?_
  rw [rounds_succ]
  go_wp2_with (at_builtin; refine append_strs (by rfl) _ _ (by rfl) _ w.heap.size _ [] _ A1 l1.length c1 l1 (by rfl) (by rfl) hown.out rfl q1 (by simp; omega) hs1 ?_; intro v2 w2 hown2 hb2 hs2)
  have f1 := (hb2.cell (p := ⟨b, _, none⟩) hbw).trans d1
  have p2 := q2.below hb2
  rw [List.nil_append] at hown2
  replace hb2 := Lib.hid hb2
  replace hown2 := Lib.hid hown2
  clear d0 d1 q1 q2
  rw [rounds_succ]
  go_wp2_with (at_builtin; refine append_strs (by rfl) _ _ (by rfl) _ w.heap.size _ l1 _ A2 l2.length c2 l2 (by rfl) (by rfl) hown2.out rfl p2 (by omega) (by omega) ?_; intro v3 w3 hown3 hb3 hs3)
  replace hb3 := Lib.hid hb3
  replace hown3 := Lib.hid hown3
  rw [rounds_succ]
  go_wp2_with fail
  go_ret
  exact ⟨_, rfl, hown3.out, (hb1.out.trans hb2.out).trans hb3.out⟩
end Go.Proofs.YtmmanmacjgedaaaDoor
