/- The plain law of the order: each node is told once, among the ordered or among the rounds; what a node uses stands ahead of it. -/
import Derived.Test.YtmmanmacjgedaaaDoorOrder
import Derived.Lib.SlicesS
namespace Go.Proofs.YtmmanmacjgedaaaDoor
open Go.RowKit Go.Shelf GraphLaw

theorem rTo_mem (R : List Nat) (k : Nat) : ∀ i, i ∈ (rTo R k).1 ↔ i < k ∧ rel R i i = true := by
  induction k with
  | zero => intro i; simp [rTo]
  | succ k ih =>
    intro i
    rw [rTo_succ]
    unfold rStep
    have e : ((R.getD k 0 >>> k) % 2 = 1) ↔ rel R k k = true := shr_mod _ _
    by_cases h : (R.getD k 0 >>> k) % 2 = 1
    · rw [if_pos h]
      simp only [List.mem_append, List.mem_singleton, ih]
      constructor
      · rintro (⟨h1, h2⟩ | rfl)
        · exact ⟨by omega, h2⟩
        · exact ⟨by omega, e.1 h⟩
      · rintro ⟨h1, h2⟩
        rcases Nat.lt_or_ge i k with h3 | h3
        · exact .inl ⟨h3, h2⟩
        · exact .inr (by omega)
    · rw [if_neg h, ih]
      constructor
      · rintro ⟨h1, h2⟩; exact ⟨by omega, h2⟩
      · rintro ⟨h1, h2⟩
        rcases Nat.lt_or_ge i k with h3 | h3
        · exact ⟨h3, h2⟩
        · obtain rfl : i = k := by omega
          exact absurd (e.2 h2) h
theorem rTo_bit (R : List Nat) (k : Nat) : ∀ j, (rTo R k).2.testBit j = decide (j ∈ (rTo R k).1) := by
  induction k with
  | zero => intro j; simp [rTo]
  | succ k ih =>
    intro j
    rw [rTo_succ]
    unfold rStep
    split
    · rw [testBit_or_one, ih]
      by_cases h1 : j ∈ (rTo R k).1 <;> by_cases h2 : k = j <;> simp [h1, h2, eq_comm]
      all_goals first | (subst h2; simp_all) | (intro h; exact absurd h.symm h2)
    · exact ih j
theorem rTo_asc (R : List Nat) (k : Nat) : (rTo R k).1.Pairwise (· < ·) := by
  induction k with
  | zero => simp [rTo]
  | succ k ih =>
    rw [rTo_succ]
    unfold rStep
    split
    · rw [List.pairwise_append]
      refine ⟨ih, by simp, ?_⟩
      intro a ha b hb
      have := ((rTo_mem R k a).1 ha).1
      simp only [List.mem_singleton] at hb
      omega
    · exact ih

theorem bitsOf_bit (l : List Nd) (us : List ByteArray) (j : Nat) : (bitsOf l us).testBit j = true ↔ ∃ u, u ∈ us ∧ findN l u = (j : Int) := by
  unfold bitsOf
  suffices H : ∀ (us : List ByteArray) (o : Nat), (us.foldl (addBit l) o).testBit j = true ↔ o.testBit j = true ∨ ∃ u, u ∈ us ∧ findN l u = (j : Int) by
    rw [H us 0]; simp
  intro us
  induction us with
  | nil => intro o; simp
  | cons u us ih =>
    intro o
    rw [List.foldl_cons, ih]
    have e : (addBit l o u).testBit j = true ↔ o.testBit j = true ∨ findN l u = (j : Int) := by
      unfold addBit
      split
      · rename_i h
        rw [testBit_or_one]
        simp only [Bool.or_eq_true, decide_eq_true_eq]
        constructor
        · rintro (h1 | h1)
          · exact .inl h1
          · exact .inr (by omega)
        · rintro (h1 | h1)
          · exact .inl h1
          · exact .inr (by omega)
      · rename_i h
        constructor
        · exact .inl
        · rintro (h1 | h1)
          · exact h1
          · omega
    rw [e]
    constructor
    · rintro ((h | h) | ⟨v, h1, h2⟩)
      · exact .inl h
      · exact .inr ⟨u, by simp, h⟩
      · exact .inr ⟨v, by simp [h1], h2⟩
    · rintro (h | ⟨v, h1, h2⟩)
      · exact .inl (.inl h)
      · rcases List.mem_cons.1 h1 with rfl | h1
        · exact .inl (.inr h2)
        · exact .inr ⟨v, h1, h2⟩

theorem dep_bit (l : List Nd) (i j : Nat) (hi : i < l.length) : ((phase l l.length).getD i 0).testBit j = true ↔ ∃ u, u ∈ usesAt l i ∧ findN l u = (j : Int) := by
  rw [phase_at l hi, bitsOf_bit]

theorem order_all (l : List Nd) : ∀ i, i < l.length → (order l).2.testBit i = true := by
  intro i hi
  refine order_done (R := rel (closure l)) ?_ ?_ ?_ i hi
  · intro a b ha hb
    refine ⟨?_, warshall_mono (phase_length l l.length) _ a b hb⟩
    obtain ⟨u, _, hf⟩ := (dep_bit l a b ha).1 hb
    rcases findN_form l u with h | ⟨c, hc, h⟩ <;> omega
  · intro a b c ha hb
    exact warshall_trans (phase_length l l.length) l.length (Nat.le_refl _) a b c ha hb
  · intro a ha hr
    show (rTo (closure l) l.length).2.testBit a = true
    rw [rTo_bit]
    simpa using (rTo_mem (closure l) l.length a).2 ⟨ha, hr⟩

theorem order_inv (l : List Nd) : OrderInv l.length (phase l l.length) (rounds l).2 (order l) := inv_loop l.length
theorem rounds_bit (l : List Nd) (j : Nat) : (rounds l).2.testBit j = decide (j ∈ (rounds l).1) := rTo_bit _ _ j
theorem rounds_lt (l : List Nd) (i : Nat) (h : i ∈ (rounds l).1) : i < l.length := ((rTo_mem _ _ i).1 h).1
theorem order_or (l : List Nd) (i : Nat) (h : i < l.length) : i ∈ (order l).1 ∨ i ∈ (rounds l).1 := by
  have := order_all l i h
  rw [(order_inv l).bit, rounds_bit] at this
  simp only [Bool.or_eq_true, decide_eq_true_eq] at this
  exact this.symm
theorem order_apart (l : List Nd) (i : Nat) (h : i ∈ (order l).1) : i ∉ (rounds l).1 := by
  have := (order_inv l).fresh i h
  rw [rounds_bit] at this
  simpa using this
theorem rounds_nodup (l : List Nd) : (rounds l).1.Nodup := (rTo_asc (closure l) l.length).imp (fun h => Nat.ne_of_lt h)
theorem both_nodup (l : List Nd) : ((order l).1 ++ (rounds l).1).Nodup := by
  rw [List.nodup_append]
  refine ⟨(order_inv l).nodup, rounds_nodup l, ?_⟩
  intro a ha b hb h
  subst h
  exact order_apart l a ha hb
theorem both_mem (l : List Nd) (i : Nat) : i ∈ (order l).1 ++ (rounds l).1 ↔ i < l.length := by
  rw [List.mem_append]
  constructor
  · rintro (h | h)
    · exact (order_inv l).lt i h
    · exact rounds_lt l i h
  · exact order_or l i
theorem both_perm (l : List Nd) : ((order l).1 ++ (rounds l).1).Perm (List.range l.length) := by
  rw [List.perm_ext_iff_of_nodup (both_nodup l) List.nodup_range]
  intro a
  rw [both_mem, List.mem_range]
theorem both_length (l : List Nd) : (order l).1.length + (rounds l).1.length = l.length := by
  have := (both_perm l).length_eq
  simpa using this

theorem name_inj {l : List Nd} (h : Asc l) {i j : Nat} (hi : i < l.length) (hj : j < l.length) (e : nameAt l i = nameAt l j) : i = j := by
  rcases Nat.lt_trichotomy i j with h1 | h1 | h1
  · have := h i j h1 hj
    rw [e] at this
    exact absurd this (List.lt_irrefl _)
  · exact h1
  · have := h j i h1 hi
    rw [e] at this
    exact absurd this (List.lt_irrefl _)

theorem names_nodup {l : List Nd} (h : Asc l) : (names l (order l).1 ++ names l (rounds l).1).Nodup := by
  unfold names
  rw [← List.map_append]
  have hnd := both_nodup l
  have hm := both_mem l
  generalize (order l).1 ++ (rounds l).1 = is at hnd hm
  rw [List.nodup_iff_pairwise_ne, List.pairwise_map] at *
  refine (List.nodup_iff_pairwise_ne.1 hnd).imp_of_mem ?_
  intro a b ha hb hne e
  exact hne (name_inj h ((hm a).1 ha) ((hm b).1 hb) e)

theorem findN_hit {l : List Nd} (h : Asc l) {j : Nat} (hj : j < l.length) : findN l (nameAt l j) = (j : Int) := by
  unfold findN
  split
  · rename_i k hk
    have h1 := List.find?_some hk
    have h2 := List.mem_of_find?_eq_some hk
    rw [beq_iff_eq, cmpS_zero] at h1
    rw [name_inj h (by simpa using h2) hj h1]
  · rename_i hk
    rw [List.find?_eq_none] at hk
    have := hk j (by simpa using hj)
    rw [beq_iff_eq, cmpS_zero] at this
    exact absurd rfl this

/-- what slices.Index tells -/
theorem idx_form (zs : List ByteArray) (x : ByteArray) : (Lib.idxOfS zs x = -1 ∧ x ∉ zs) ∨ ∃ q : Nat, Lib.idxOfS zs x = (q : Int) ∧ zs[q]? = some x ∧ ∀ p, p < q → zs[p]? ≠ some x := by
  unfold Lib.idxOfS
  suffices H : ∀ (zs : List ByteArray) (i : Nat), (Lib.idxFromS zs x i = -1 ∧ x ∉ zs) ∨ ∃ q : Nat, Lib.idxFromS zs x i = ((i + q : Nat) : Int) ∧ zs[q]? = some x ∧ ∀ p, p < q → zs[p]? ≠ some x by
    rcases H zs 0 with h | ⟨q, h1, h2⟩
    · exact .inl h
    · exact .inr ⟨q, by rw [h1, Nat.zero_add], h2⟩
  intro zs
  induction zs with
  | nil => intro i; left; exact ⟨rfl, by simp⟩
  | cons z zs ih =>
    intro i
    by_cases hz : z = x
    · right
      exact ⟨0, by simp [Lib.idxFromS, hz], by simp [hz], fun p hp => absurd hp (by omega)⟩
    · rcases ih (i + 1) with ⟨h1, h2⟩ | ⟨q, h1, h2, h3⟩
      · left
        refine ⟨by simp [Lib.idxFromS, hz, h1], ?_⟩
        simp only [List.mem_cons, not_or]
        exact ⟨fun e => hz e.symm, h2⟩
      · right
        refine ⟨q + 1, ?_, by simpa using h2, ?_⟩
        · simp only [Lib.idxFromS, if_neg hz, h1]
          omega
        · intro p hp
          rcases p with _ | p
          · simpa using hz
          · simpa using h3 p (by omega)

theorem names_at (l : List Nd) (is : List Nat) (q : Nat) : (names l is)[q]? = (is[q]?).map (nameAt l) := by simp [names]

/-- what a node uses stands ahead of it, where it stands -/
theorem order_law {l : List Nd} (h : Asc l) (i : Nat) (hi : i < l.length) (u : ByteArray) (hu : u ∈ usesAt l i)
    (h0 : 0 ≤ Lib.idxOfS (names l (order l).1) (nameAt l i)) : Lib.idxOfS (names l (order l).1) u < Lib.idxOfS (names l (order l).1) (nameAt l i) := by
  rcases idx_form (names l (order l).1) (nameAt l i) with ⟨h1, _⟩ | ⟨p, h1, h2, -⟩
  · omega
  rw [h1]
  rcases idx_form (names l (order l).1) u with ⟨k1, _⟩ | ⟨q, k1, k2, k3⟩
  · omega
  rw [k1]
  rw [names_at] at h2 k2
  obtain ⟨i', hi', e1⟩ := Option.map_eq_some_iff.1 h2
  obtain ⟨j, hj, e2⟩ := Option.map_eq_some_iff.1 k2
  have hi2 : i' < l.length := (order_inv l).lt i' (List.mem_of_getElem? hi')
  have hj2 : j < l.length := (order_inv l).lt j (List.mem_of_getElem? hj)
  have := name_inj h hi2 hi e1
  subst this
  have hbit : ((phase l l.length).getD i' 0).testBit j = true := (dep_bit l i' j hi).2 ⟨u, hu, by rw [← e2]; exact findN_hit h hj2⟩
  rcases (order_inv l).dep p i' j hi' hbit with hd | ⟨q', hq, hq'⟩
  · rw [rounds_bit] at hd
    exact absurd (by simpa using hd) (order_apart l j (List.mem_of_getElem? hj))
  · rcases Nat.lt_or_ge q' q with hlt | hge
    · refine absurd ?_ (k3 q' hlt)
      rw [names_at, hq', Option.map_some, e2]
    · omega

theorem rounds_sorted {l : List Nd} (k : Nat) (hk : k + 1 < (names l (rounds l).1).length) :
    ∃ i j, i < j ∧ j < l.length ∧ (names l (rounds l).1).getD k ByteArray.empty = nameAt l i ∧ (names l (rounds l).1).getD (k + 1) ByteArray.empty = nameAt l j := by
  have hk' : k + 1 < (rounds l).1.length := by simpa [names] using hk
  have hp := List.pairwise_iff_getElem.1 (rTo_asc (closure l) l.length) k (k + 1) (by have : (rTo (closure l) l.length).1.length = (rounds l).1.length := rfl; omega) hk' (by omega)
  refine ⟨(rounds l).1[k], (rounds l).1[k + 1], hp, rounds_lt l _ (List.getElem_mem _), ?_, ?_⟩
  · rw [List.getD_eq_getElem?_getD, names_at, List.getElem?_eq_getElem (by omega)]; rfl
  · rw [List.getD_eq_getElem?_getD, names_at, List.getElem?_eq_getElem (by omega)]; rfl
end Go.Proofs.YtmmanmacjgedaaaDoor
